/- The functions that the statement reaches, gone through. -/
import Derived.Test.YtlgebaofkolkoaaIxScB
set_option linter.unusedSimpArgs false
set_option linter.unusedVariables false
set_option linter.defProp false
set_option maxRecDepth 10000
namespace Go.Am.Ytlgebaofkolkoaa
open Go Go.Am Go.Proofs
set_option maxHeartbeats 4000000 in
theorem f37 (x : Nat) (hash : List UInt8) (pn z : Int) (hl : hash.length = 32) (L : List Ver) (D M : Nat → Prop) (h : Hp) (n : Nat) (hs : Ix h n D M x L) (hc : L.length ≤ 1000000) (hf : Free h n) :
    Wp (callI env (evalW env) 37 [.ptr x 0, .agg (pcells hash pn), .int .i64 z]) h n fun v' h' n' => Old h h' n ∧ ∃ k, pos false L (key hash pn 0) ≤ k ∧ (∀ i (hi : i < L.length), pos false L (key hash pn 0) ≤ i → i < k → same hash pn L[i] = true) ∧ (∀ hk : k < L.length, same hash pn L[k] = false) ∧
      ((fnd L (pos false L (key hash pn 0)) k z = none ∧ v' = .tup [.agg ty31.i.zero.cells, .bool false]) ∨ ∃ w s', fnd L (pos false L (key hash pn 0)) k z = some w ∧ v' = .tup [.agg (vcells w s'), .bool true] ∧ w ∈ L ∧ Bytes h' s' w.script ∧ ∀ j, ownId s' = some j → n ≤ j ∧ j < n') := by
  obtain ⟨⟨S, s0, rS, perm⟩, rL, ok⟩ := hs
  obtain ⟨vl, vs, xl, xs, iv, mx, ml, ms, mn⟩ := s0
  refine wp_callI ff37 fi37 ?_
  simp only [fu37, Try.f37, Option.getD_some, List.replicate, core1, execOp, opd, nth, ended, resultOf, oneOrTup, List.cons_append, List.nil_append, List.length_cons, List.length_nil, Nat.reduceAdd, Nat.reduceSub, Nat.zero_add]
  refine opv_box (v := .agg (pcells hash pn)) ti28 rfl hf fun H1 r1 o1 f1 => ?_
  simp only [core1, execOp, opd, putT, put, nth]
  refine opv_box (v := .int .i64 z) ti3 rfl f1 fun H2 r2 o2 f2 => ?_
  simp only [core1, execOp, putT, put]
  rw [opv_alloc ti31 rfl]
  obtain ⟨H3, hH3⟩ : ∃ H3, H3 = upd H2 (n + 1 + 1) (some (Blk.row (Cont.l ty31.i.zero.cells) 31)) := ⟨_, rfl⟩
  show Ops env 37 none _ _ _ _ _ (upd H2 (n + 1 + 1) (some (Blk.row (Cont.l ty31.i.zero.cells) 31))) _
  rw [← hH3]
  have f3 : Free H3 (n + 1 + 1 + 1) := by rw [hH3]; exact f2.new
  have o3 : ∀ j, j ≠ n + 1 + 1 → H3 j = H2 j := fun j hj => by rw [hH3, upd_ne _ _ hj]
  have r3 : H3 (n + 1 + 1) = some (Blk.row (Cont.l ty31.i.zero.cells) 31) := by rw [hH3, upd_same]
  clear hH3
  simp only [core1, tyr, fgr, execOp, opd, ofValue, putT, put, nth, forgetL, zeroOf, cel, alloc, doAlloc, newRow]
  have r1' : Row (upd H3 (n + 1 + 1 + 1) (some (Blk.row (Cont.l [AVal.nilp]) 128))) n (pcells hash pn) := ((r1.keep (o2 n (by omega))).keep (o3 n (by omega))).upd (by omega)
  rw [opv_rd (show Rd (load env 28 (.ptr n 0)) _ _ [n] (.agg (pcells hash pn)) from Row.whole r1' ti28 rfl (pcells_len hl))]
  simp only [core1, hkr, execOp, opd, opds, putT, put, nth, doCall, callV_func, List.nil_append, List.append_nil]
  refine opv_same (f81 x hash pn _ _) ?_
  simp only [core1, fgr, putT, put, forgetL]
  refine run_range (g := 106) (first := []) (cap := [.ptr (n + 1 + 1 + 1 + 1) 0, .ptr (n + 1 + 1 + 1 + 1 + 1) 0]) rfl rfl ?_
  let TM : List AVal := (.ptr x 0 :: .agg (pcells hash pn) :: .int .i64 z :: AVal.junk :: .ptr n 0 :: .ptr (n + 1) 0 :: .ptr (n + 1 + 1) 0 :: .bool false :: .ptr (n + 1 + 1 + 1) 0 :: undef :: AVal.junk :: AVal.junk :: .fn (.func 106) [] [.ptr (n + 1 + 1 + 1 + 1) 0, .ptr (n + 1 + 1 + 1 + 1 + 1) 0] :: undef :: AVal.junk :: AVal.junk :: AVal.junk :: AVal.junk :: AVal.junk :: undef :: AVal.junk :: AVal.junk :: undef :: AVal.junk :: AVal.junk :: AVal.junk :: AVal.junk :: AVal.junk :: [])
  obtain ⟨H6, hH6⟩ : ∃ H6, H6 = upd (upd (upd (upd H3 (n + 1 + 1 + 1) (some (Blk.row (Cont.l [AVal.nilp]) 128))) (n + 1 + 1 + 1 + 1) (some (Blk.row (Cont.l [AVal.ptr x 0]) 56))) (n + 1 + 1 + 1 + 1 + 1) (some (Blk.row (Cont.l (pcells hash pn)) 28))) (n + 1 + 1 + 1 + 1 + 1 + 1) (some (Blk.loop (L37 TM))) := ⟨_, rfl⟩
  show Wp (callF env (evalW env) 106 [AVal.fn (Fn.yield (n + 1 + 1 + 1 + 1 + 1 + 1)) [] [], AVal.ptr (n + 1 + 1 + 1 + 1) 0, AVal.ptr (n + 1 + 1 + 1 + 1 + 1) 0]) (upd (upd (upd (upd H3 (n + 1 + 1 + 1) (some (Blk.row (Cont.l [AVal.nilp]) 128))) (n + 1 + 1 + 1 + 1) (some (Blk.row (Cont.l [AVal.ptr x 0]) 56))) (n + 1 + 1 + 1 + 1 + 1) (some (Blk.row (Cont.l (pcells hash pn)) 28))) (n + 1 + 1 + 1 + 1 + 1 + 1) (some (Blk.loop (L37 TM)))) _ _
  rw [hk106, ← hH6]
  have f6 : Free H6 (n + 1 + 1 + 1 + 1 + 1 + 1 + 1) := by rw [hH6]; exact f3.new.new.new.new
  have old6 : Old h H6 n := fun j hj => by rw [hH6, upd_ne _ _ (by omega), upd_ne _ _ (by omega), upd_ne _ _ (by omega), upd_ne _ _ (by omega), o3 j (by omega), o2 j (by omega), o1 j (by omega)]
  have g1 : Row H6 (n + 1) [.int .i64 z] := by rw [hH6]; exact ((((r2.keep (o3 (n + 1) (by omega))).upd (by omega)).upd (by omega)).upd (by omega)).upd (by omega)
  have g2 : H6 (n + 1 + 1) = some (Blk.row (Cont.l ty31.i.zero.cells) 31) := by rw [hH6, upd_ne _ _ (by omega), upd_ne _ _ (by omega), upd_ne _ _ (by omega), upd_ne _ _ (by omega)]; exact r3
  have g3 : H6 (n + 1 + 1 + 1) = some (Blk.row (Cont.l [AVal.nilp]) 128) := by rw [hH6, upd_ne _ _ (by omega), upd_ne _ _ (by omega), upd_ne _ _ (by omega), upd_same]
  have g4 : Row H6 (n + 1 + 1 + 1 + 1) [.ptr x 0] := by rw [hH6]; exact ((Row.new _ _ _ _).upd (by omega)).upd (by omega)
  have g5 : Row H6 (n + 1 + 1 + 1 + 1 + 1) (pcells hash pn) := by rw [hH6]; exact (Row.new _ _ _ _).upd (by omega)
  have g6 : H6 (n + 1 + 1 + 1 + 1 + 1 + 1) = some (.loop (L37 TM)) := by rw [hH6, upd_same]
  clear hH6
  have iv6 : IxV H6 (n + 1 + 1 + 1 + 1 + 1 + 1 + 1) D x vl vs xl xs L S := by
    exact ⟨iv.row.keep (old6 x iv.xn), iv.l.keep (fun j q => old6 j (mn j (ml j q)).1), iv.lp.mono (fun j q => q) (fun j q => old6 j (iv.dn j q)), iv.s.keep (fun j q => old6 j (mn j (ms j q)).1), iv.sp.mono (fun j q => q) (fun j q => old6 j (iv.dn j q)), by have := iv.xn; omega, fun j q => by have := iv.dn j q; omega, iv.xd, iv.vlx, iv.vsx⟩
  have lt : ∀ (j : Nat), j < n → ∀ (h1 : Hp), (∀ j, j < n + 1 + 1 + 1 + 1 + 1 + 1 + 1 → j ≠ n + 1 + 1 + 1 → j ≠ n + 1 + 1 + 1 + 1 + 1 + 1 → h1 j = H6 j) → h1 j = H6 j := fun j hj h1 hk => hk j (by omega) (by omega) (by omega)
  refine wp_mono ((f106 (.fn (.yield (n + 1 + 1 + 1 + 1 + 1 + 1)) [] []) (n + 1 + 1 + 1 + 1) (n + 1 + 1 + 1 + 1 + 1) x hash pn hl L S D (P37 H6 n D L hash pn z (L37 TM)) (fun _ _ _ => False) vl vs xl xs H6 (n + 1 + 1 + 1 + 1 + 1 + 1 + 1) iv6 (fun j q => by have := (mn j (ml j q)).1; omega) rL hc ⟨rfl, rfl, rfl⟩ g4 g5 (by omega) (by omega) f6 ?_ ?_ ?_ (fun _ _ _ _ _ _ _ q => q) ?_).free f6) ?_
  · intro nS k h1 n1 p
    exact ⟨iv6.l.rds.keep (fun j q => lt j (mn j (ml j q)).1 h1 p.kp), iv6.lp.mono (fun j q => q) (fun j q => lt j (iv.dn j q) h1 p.kp), p.fr⟩
  · intro h' nS hn' hf' ho'
    exact ⟨hf', Nat.le_refl _, fun j hj _ _ => ho' j hj, (ho' _ (by omega)).trans g6, ⟨.nilp, (ho' _ (by omega)).trans g3, .inl ⟨rfl, fnd_0 _ _ _⟩⟩, fun i hi h1 h2 => by omega⟩
  · intro nS k h1 n1 i b hi hns p
    obtain ⟨c, hc1, hc2⟩ := p.cl
    exact ⟨p.fr.upd (by have := p.ns; omega), p.ns, fun j hj h1' h2' => by rw [upd_ne _ _ (by omega)]; exact p.kp j hj h1' h2', by rw [upd_ne _ _ (by omega)]; exact p.lp, ⟨c, by rw [upd_ne _ _ (by omega)]; exact hc1, hc2⟩, p.sm⟩
  · intro nS k hk id sv h1 n1 hnS hpk p a d1 d2 hsm
    have hidn := iv.dn id d1
    refine wp_yield p.lp rfl rfl ?_
    simp only [ra37_0, List.getD_cons_zero, putAll, List.zip_cons_cons, List.zip_nil_left, L37, TM, rangesOf, Try.f37, Option.getD_some, core1, fgr, execOp, opd, putT, put, nth, forgetL, List.nil_append, List.append_nil, true_and]
    refine ⟨_, p.lp, rfl, ?_⟩
    obtain ⟨h2, hh2⟩ : ∃ h2, h2 = upd h1 (n + 1 + 1 + 1 + 1 + 1 + 1) (some (Blk.loop { L37 TM with state := .busy })) := ⟨_, rfl⟩
    have ho2 : ∀ j, j ≠ n + 1 + 1 + 1 + 1 + 1 + 1 → h2 j = h1 j := fun j hj => by rw [hh2, upd_ne _ _ hj]
    have hlo2 : h2 (n + 1 + 1 + 1 + 1 + 1 + 1) = some (.loop { L37 TM with state := .busy }) := by rw [hh2, upd_same]
    have hns := p.ns
    have hf2 : Free h2 n1 := by rw [hh2]; exact p.fr.upd (by omega)
    show Run env 37 _ _ _ _ _ (upd h1 (n + 1 + 1 + 1 + 1 + 1 + 1) (some (Blk.loop { L37 TM with state := .busy }))) n1
    rw [← hh2]
    clear hh2
    have a2 : At h2 id sv L[k] := a.keep (ho2 id (by omega)) (fun j q => ho2 j (by have := iv.dn j (d2 j q); omega))
    have a6 : At H6 id sv L[k] := a.keep (lt id hidn h1 p.kp).symm (fun j q => (lt j (iv.dn j (d2 j q)) h1 p.kp).symm)
    have rz : Row h2 (n + 1) [.int .i64 z] := g1.keep ((ho2 (n + 1) (by omega)).trans (p.kp (n + 1) (by omega) (by omega) (by omega)))
    obtain ⟨c, hc1, hc2⟩ := p.cl
    simp only [rb37_0, List.getD_cons_zero, rangesOf, Try.f37, Option.getD_some, core1, List.nil_append, List.append_nil]
    refine run_draw.2 ⟨rfl, ?_⟩
    simp only [fe_cons, fev_pure, execOp, opd, putT, put, nth, nilCheck, Nat.reduceAdd, Nat.zero_add]
    rw [fev_rd (row_all a2.row a2.ok)]
    simp only [fe_cons, execOp, opd, putT, put, nth, Nat.reduceAdd]
    rw [fev_rd (rz.one (off := 0) rfl ti3 rfl)]
    simp only [fe_cons, hkr, execOp, opd, opds, putT, put, nth, doCall, callV_func, List.nil_append, List.append_nil, Nat.reduceAdd]
    refine fev_any hf2 (f82 L[k] sv a2.ok z h2 n1 hf2) fun v6 h6 n6 r6 w6 hn6 f6' ⟨e6, o6⟩ => ?_
    subst e6
    have hlo6 : h6 (n + 1 + 1 + 1 + 1 + 1 + 1) = some (.loop { L37 TM with state := .busy }) := (o6 _ (by omega)).trans hlo2
    have hc6 : h6 (n + 1 + 1 + 1) = some (.row (.l [c]) 128) := ((o6 _ (by omega)).trans (ho2 _ (by omega))).trans hc1
    have sm' : ∀ i (hi : i < L.length), pos false L (key hash pn 0) ≤ i → i < k + 1 → same hash pn L[i] = true := fun i hi h1' h2' => by
      by_cases q : i = k
      · subst q; exact hsm
      · exact p.sm i hi h1' (by omega)
    have keep6 : ∀ j, j < n1 → j ≠ n + 1 + 1 + 1 + 1 + 1 + 1 → h6 j = h1 j := fun j hj hne => (o6 j hj).trans (ho2 j hne)
    cases hth : there L[k] z with
    | false =>
      simp only [fe_nil, fe_cons, fev_pure, core1, fgr, execOp, opd, putT, put, nth, forgetL, unOp, Nat.reduceAdd, Bool.not_false]
      refine ⟨(by (try simp (disch := first | assumption | omega) only [fine, List.all_cons, List.all_nil, clash_pl, clash_pr, clash_rr, Bool.not_false, Bool.true_or, Bool.and_true, Bool.true_and]); repeat' (first | rfl | exact (Bool.or_eq_true _ _).mpr (.inr rfl) | refine (Bool.and_eq_true _ _).mpr ⟨?_, ?_⟩)), _, hlo6, .inl ⟨.inl rfl, ⟨f6'.upd (by omega), by omega, fun j hj h1' h2' => ?_, upd_same _ _ _, ⟨c, by rw [upd_ne _ _ (by omega)]; exact hc6, by rw [fnd_s hpk hk, hth]; exact hc2⟩, sm'⟩⟩, fun j hj hjn => ?_, ?_⟩
      · rw [upd_ne _ _ h2', keep6 j (by omega) h2']; exact p.kp j hj h1' h2'
      · rw [upd_ne _ _ (by omega), keep6 j (by omega) (by omega)]
      · rw [upd_ne _ _ (by omega), keep6 _ (by omega) (by omega)]
    | true =>
      simp only [fe_nil, fe_cons, fev_pure, core1, fgr, execOp, opd, putT, put, nth, forgetL, unOp, Nat.reduceAdd, Bool.not_true]
      refine ⟨(by (try simp (disch := first | assumption | omega) only [fine, List.all_cons, List.all_nil, clash_pl, clash_pr, clash_rr, Bool.not_false, Bool.true_or, Bool.and_true, Bool.true_and]); repeat' (first | rfl | exact (Bool.or_eq_true _ _).mpr (.inr rfl) | refine (Bool.and_eq_true _ _).mpr ⟨?_, ?_⟩)), ?_⟩
      rw [opv_wr (Row.write (v := .ptr id 0) hc6 ti128 rfl (by show 0 + 1 ≤ 1; omega) rfl)]
      simp only [core1, fgr, putT, forgetL, cel]
      have spl : splice [c] 0 [AVal.ptr id 0] = [AVal.ptr id 0] := rfl
      refine ⟨_, (upd_ne _ _ (by omega)).trans hlo6, .inl ⟨.inl rfl, ⟨(f6'.upd (by omega)).upd (by omega), by omega, fun j hj h1' h2' => ?_, upd_same _ _ _, ⟨.ptr id 0, by rw [upd_ne _ _ (by omega), upd_same]; rfl, .inr ⟨id, sv, L[k], rfl, by rw [fnd_s hpk hk, hth]; rfl, a6, d1, d2⟩⟩, sm'⟩⟩, fun j hj hjn => ?_, ?_⟩
      · rw [upd_ne _ _ h2', upd_ne _ _ h1', keep6 j (by omega) h2']; exact p.kp j hj h1' h2'
      · rw [upd_ne _ _ (by omega), upd_ne _ _ (by omega), keep6 j (by omega) (by omega)]
      · rw [upd_ne _ _ (by omega), upd_ne _ _ (by omega), keep6 _ (by omega) (by omega)]
  · rintro v5 h5 n5 ⟨⟨e5, nS, hnS, hh⟩, hn5, f5⟩
    rcases hh with ⟨k, hk1, p, hk3⟩ | hr
    · refine ⟨_, p.lp, (fun q => by cases q), .normal, rfl, ?_⟩
      obtain ⟨c, hc1, hc2⟩ := p.cl
      have hns := p.ns
      obtain ⟨h7, hh7⟩ : ∃ h7, h7 = upd h5 (n + 1 + 1 + 1 + 1 + 1 + 1) (some (Blk.loop { L37 TM with state := .exhausted })) := ⟨_, rfl⟩
      have ho7 : ∀ j, j ≠ n + 1 + 1 + 1 + 1 + 1 + 1 → h7 j = h5 j := fun j hj => by rw [hh7, upd_ne _ _ hj]
      have f7 : Free h7 n5 := by rw [hh7]; exact f5.upd (by omega)
      show Kont env 37 none _ _ _ _ (upd h5 (n + 1 + 1 + 1 + 1 + 1 + 1) (some (Blk.loop { L37 TM with state := .exhausted }))) n5
      rw [← hh7]
      clear hh7
      have kp7 : ∀ j, j < n → h7 j = h j := fun j hj => by rw [ho7 j (by omega), lt j hj h5 p.kp, old6 j hj]
      have hcell : Row h7 (n + 1 + 1 + 1) [c] := ⟨_, (ho7 _ (by omega)).trans hc1⟩
      have res : h7 (n + 1 + 1) = some (Blk.row (Cont.l ty31.i.zero.cells) 31) := (ho7 _ (by omega)).trans ((p.kp _ (by omega) (by omega) (by omega)).trans g2)
      simp only [core1, execOp, opd, nth]
      rw [opv_rd (hcell.one (off := 0) rfl ti128 rfl)]
      rcases hc2 with ⟨rfl, hn⟩ | ⟨id, sw, w, rfl, hw, a, d1, d2⟩
      · simp only [core1, tyr, fgr, execOp, opd, ofValue, ops2, putT, put, nth, forgetL, und, bor, binOther, strK, aggK, equalTop, equal, nilFn, nilPtr, boolOf, Bool.and_true, Bool.or_true, b31z]
        rw [opv_wr (Row.write (v := .agg ty31.i.zero.cells) res ti31 rfl (by decide) rfl)]
        have spl : splice ty31.i.zero.cells 0 (AVal.agg ty31.i.zero.cells).cells = ty31.i.zero.cells := splice_all rfl
        rw [spl]
        simp only [core1, fgr, execOp, opd, ofValue, putT, put, nth, forgetL, true_and]
        refine wp_rdb (Row.whole (cs := ty31.i.zero.cells) (Row.new _ _ _ _) ti31 rfl rfl) ?_
        exact wp_pure.2 ⟨fun j hj => by rw [upd_ne _ _ (by omega), kp7 j hj], k, hk1, p.sm, hk3, .inl ⟨hn, rfl⟩⟩
      · simp only [core1, tyr, fgr, execOp, opd, ofValue, putT, put, nth, forgetL, und, bor, binOther, strK, aggK, equalTop, equal, nilFn, nilPtr, boolOf, Bool.and_true, Bool.or_true]
        rw [opv_rd (hcell.one (off := 0) rfl ti128 rfl)]
        have hwL := fnd_mem hw
        have okw := ok w hwL
        have hidn := iv.dn id d1
        have a7 : At h7 id sw w := a.keep ((ho7 id (by omega)).trans (lt id hidn h5 p.kp)) (fun j q => (ho7 j (by have := iv.dn j (d2 j q); omega)).trans (lt j (iv.dn j (d2 j q)) h5 p.kp))
        simp only [core1, execOp, opd, putT, put, nth, nilCheck]
        rw [opv_rd (row_all a7.row a7.ok)]
        simp only [core1, hkr, execOp, opd, opds, putT, put, nth, doCall, callV_func, List.nil_append, List.append_nil]
        refine opv_callf f7 (f77 w sw a7.ok h7 n5 a7.s (fun j q => by have := iv.dn j (d2 j q); omega) okw.2 f7) fun v8 h8 n8 hn8 f8 ⟨s', e8, b8, i8, o8⟩ => ?_
        subst e8
        simp only [core1, execOp, opd, putT, put, nth]
        have res8 : h8 (n + 1 + 1) = some (Blk.row (Cont.l ty31.i.zero.cells) 31) := (o8 _ (by omega)).trans res
        rw [opv_wr (Row.write (v := .agg (vcells w s')) res8 ti31 (vcells_len a7.ok.h a7.ok.b) (by decide) (vcells_cell b8.kind.2.1))]
        have spl : splice ty31.i.zero.cells 0 (AVal.agg (vcells w s')).cells = vcells w s' := splice_all (vcells_len a7.ok.h a7.ok.b)
        rw [spl]
        simp only [core1, fgr, execOp, opd, ofValue, putT, put, nth, forgetL, true_and]
        refine wp_rdb (row_all (Row.new _ _ _ _) a7.ok) ?_
        refine wp_pure.2 ⟨fun j hj => by rw [upd_ne _ _ (by omega), o8 j (by omega), kp7 j hj], k, hk1, p.sm, hk3, .inr ⟨w, s', hw, rfl, hwL, b8.keep fun j q => upd_ne _ _ (by have := i8 j q; omega), fun j q => by have := i8 j q; omega⟩⟩
    · exact hr.elim
/- The reference's comparisons of outpoints and versions. -/
theorem f89 (v w : AVal) (a b : List UInt8) (h : Hp) (n : Nat) (ha : Bytes h v a) (hb : Bytes h w b) : Wp (callI env (evalW env) 89 [v, w]) h n fun v' h' n' => v' = .bool (a == b) ∧ h' = h ∧ n' = n := by
  refine wp_callI ff89 fi89 ?_
  simp only [fu89, Try.f89, Option.getD_some, List.replicate, core1, fgr, execOp, opd, ofValue, putT, put, nth, forgetL, ended, resultOf, oneOrTup, List.cons_append, List.nil_append, List.length_cons, List.length_nil, Nat.reduceAdd, Nat.reduceSub, str_beq, Nat.zero_add, wp_pure, ha.str t29 t9 t5]
  rw [hb.str t29 t9 t5]
  simp only [core1, fgr, execOp, opd, putT, put, nth, forgetL, bor, strOp, strK, str_beq, and_self]
theorem arr_idx {id off : Nat} {z : Int} {j : Nat} (hz : z = (j : Nat)) (hj : j < 32) {h' : Hp} {n' : Nat} : Rd (indexAddr env 25 (.ptr id off) (.int .i64 z)) h' n' [] (.ptr id (off + j)) := by
  subst hz
  simp only [indexAddr, u25, bind_pure, intK, z5, Go.Am.idx, bind_assoc, Int.toNat_natCast, Nat.mul_one, moved]
  exact Rd.bind (i2 := []) (Rd.ob (decide_eq_true ⟨by omega, by omega⟩)) (Rd.pure _)
theorem pcells_h {hash : List UInt8} {pn : Int} {j : Nat} (hj : j < hash.length) : (pcells hash pn)[j]? = some (u8 hash[j]) := by
  unfold pcells
  rw [List.getElem?_append_left (by simpa using hj), List.getElem?_map, List.getElem?_eq_getElem hj]; rfl
theorem loop87 (Q : Post0) (ks : List Kf) (p q : Nat) (h1 h2 : List UInt8) (n1 n2 : Int) (l1 : h1.length = 32) (l2 : h2.length = 32) (h : Hp) (n : Nat) (r1 : Row h p (pcells h1 n1)) (r2 : Row h q (pcells h2 n2))
    (hT : ∀ (x0 x1 x5 x7 x18 x27 x32 x37 : AVal), Lib.compareBytes h1 h2 = 0 → Kont env 87 none Q ks (.exit 0) (x0 :: x1 :: .ptr p 0 :: .ptr q 0 :: .int .i64 0 :: x5 :: AVal.junk :: x7 :: AVal.junk :: AVal.junk :: AVal.junk :: AVal.junk :: AVal.junk :: AVal.junk :: AVal.junk :: AVal.junk :: AVal.junk :: AVal.junk :: x18 :: AVal.junk :: AVal.junk :: AVal.junk :: AVal.junk :: AVal.junk :: AVal.junk :: AVal.junk :: AVal.junk :: x27 :: AVal.junk :: AVal.junk :: AVal.junk :: AVal.junk :: x32 :: AVal.junk :: AVal.junk :: AVal.junk :: AVal.junk :: x37 :: []) h n)
    (hR : ∀ (r : Int) (x0 x1 x5 x7 x18 x27 x32 x37 : AVal), r ≠ 0 → Lib.compareBytes h1 h2 = r → Kont env 87 none Q ks .ret (x0 :: x1 :: .ptr p 0 :: .ptr q 0 :: .int .i64 r :: x5 :: AVal.junk :: x7 :: AVal.junk :: AVal.junk :: AVal.junk :: AVal.junk :: AVal.junk :: AVal.junk :: AVal.junk :: AVal.junk :: AVal.junk :: AVal.junk :: x18 :: AVal.junk :: AVal.junk :: AVal.junk :: AVal.junk :: AVal.junk :: AVal.junk :: AVal.junk :: AVal.junk :: x27 :: AVal.junk :: AVal.junk :: AVal.junk :: AVal.junk :: x32 :: AVal.junk :: AVal.junk :: AVal.junk :: AVal.junk :: x37 :: []) h n) :
    ∀ (m i : Nat) (x0 x1 x7 x18 x27 x32 x37 : AVal), i + m = 32 → Lib.compareBytes (h1.drop i) (h2.drop i) = Lib.compareBytes h1 h2 → Run env 87 none Q (.loop lp87_0) ks (x0 :: x1 :: .ptr p 0 :: .ptr q 0 :: .int .i64 0 :: .int .i64 (i : Nat) :: AVal.junk :: x7 :: AVal.junk :: AVal.junk :: AVal.junk :: AVal.junk :: AVal.junk :: AVal.junk :: AVal.junk :: AVal.junk :: AVal.junk :: AVal.junk :: x18 :: AVal.junk :: AVal.junk :: AVal.junk :: AVal.junk :: AVal.junk :: AVal.junk :: AVal.junk :: AVal.junk :: x27 :: AVal.junk :: AVal.junk :: AVal.junk :: AVal.junk :: x32 :: AVal.junk :: AVal.junk :: AVal.junk :: AVal.junk :: x37 :: []) h n := by
  intro m
  induction m with
  | zero =>
    intro i x0 x1 x7 x18 x27 x32 x37 hi he
    rw [run_loop]
    have hcc : ¬ (((i : Nat) : Int) < 32) := by omega
    have d1 : h1.drop i = [] := by rw [List.drop_eq_nil_iff]; omega
    have d2 : h2.drop i = [] := by rw [List.drop_eq_nil_iff]; omega
    rw [d1, d2] at he
    simp only [lp87_0, loopsOf, Try.f87, Option.getD_some, core1, fgr, execOp, opd, ofValue, putT, put, nth, forgetL, bor, binInt, shiftB, intOp, List.nil_append, List.append_nil, Int.reduceNeg, decide_true, decide_false, List.getD_cons_zero, hcc]
    exact hT _ _ _ _ _ _ _ _ he.symm
  | succ m ih =>
    intro i x0 x1 x7 x18 x27 x32 x37 hi he
    rw [run_loop]
    have hcc : (((i : Nat) : Int) < 32) := by omega
    simp only [lp87_0, loopsOf, Try.f87, Option.getD_some, core1, fgr, execOp, opd, ofValue, putT, put, nth, forgetL, bor, binInt, shiftB, intOp, List.nil_append, List.append_nil, Int.reduceNeg, decide_true, List.getD_cons_zero, hcc]
    have i1 : i < h1.length := by omega
    have i2 : i < h2.length := by omega
    have e1 : h1.drop i = h1[i] :: h1.drop (i + 1) := (List.getElem_cons_drop i1).symm
    have e2 : h2.drop i = h2[i] :: h2.drop (i + 1) := (List.getElem_cons_drop i2).symm
    rw [e1, e2] at he
    simp only [Lib.compareBytes] at he
    have g1 := r1.one (E := env) (n := n) (off := 0 + i) (by rw [Nat.zero_add]; exact pcells_h i1) ti5 rfl
    have g2 := r2.one (E := env) (n := n) (off := 0 + i) (by rw [Nat.zero_add]; exact pcells_h i2) ti5 rfl
    have x1' := arr_idx (id := p) (off := 0) (z := ((i : Nat) : Int)) (j := i) rfl (by omega) (h' := h) (n' := n)
    have x2' := arr_idx (id := q) (off := 0) (z := ((i : Nat) : Int)) (j := i) rfl (by omega) (h' := h) (n' := n)
    have w1 : IntKind.i64.wrap (((i : Nat) : Int) + 1) = ((i + 1 : Nat) : Int) := by rw [w64 (by omega) (by omega)]; omega
    rw [Nat.zero_add] at g1 g2 x1' x2'
    by_cases c1 : h1[i] < h2[i]
    · have c1' : ((h1[i].toNat : Nat) : Int) < ((h2[i].toNat : Nat) : Int) := by rw [UInt8.lt_iff_toNat_lt] at c1; omega
      rw [if_pos c1] at he
      refine run_draw.2 ⟨rfl, ?_⟩
      simp only [fe_cons, fev_pure, core1, tyr, execOp, opd, putT, put, nth, und, sizeOf, getO, moved, fieldAddr, List.getElem?_cons_zero, Nat.reduceAdd, Int.reduceNeg, Nat.zero_add]
      rw [fev_rd x1']
      simp only [fe_cons, execOp, opd, putT, put, nth, Nat.reduceAdd, Int.reduceNeg]
      rw [fev_rd g1]
      simp only [fe_cons, fev_pure, core1, u8, tyr, execOp, opd, putT, put, nth, und, sizeOf, getO, moved, fieldAddr, List.getElem?_cons_zero, Nat.reduceAdd, Int.reduceNeg, Nat.zero_add]
      rw [fev_rd x2']
      simp only [fe_cons, execOp, opd, putT, put, nth, Nat.reduceAdd, Int.reduceNeg]
      rw [fev_rd g2]
      simp only [fe_nil, fe_cons, fev_pure, core1, u8, fgr, execOp, opd, ofValue, putT, put, nth, forgetL, bor, binInt, shiftB, intOp, Nat.reduceAdd, Int.reduceNeg, decide_true, u8, c1']
      refine ⟨(by (try simp (disch := omega) only [fine, List.all_cons, List.all_nil, clash_pr, clash_rr, Bool.not_false, Bool.true_or, Bool.and_true]); repeat' (first | rfl | exact (Bool.or_eq_true _ _).mpr (.inr rfl) | refine (Bool.and_eq_true _ _).mpr ⟨?_, ?_⟩)), ?_⟩
      exact hR (-1) _ _ _ _ _ _ _ _ (by decide) he.symm
    have c1' : ¬ ((h1[i].toNat : Nat) : Int) < ((h2[i].toNat : Nat) : Int) := by rw [UInt8.lt_iff_toNat_lt] at c1; omega
    rw [if_neg c1] at he
    refine run_draw.2 ⟨rfl, ?_⟩
    simp only [fe_cons, fev_pure, core1, tyr, execOp, opd, putT, put, nth, und, sizeOf, getO, moved, fieldAddr, List.getElem?_cons_zero, Nat.reduceAdd, Int.reduceNeg, Nat.zero_add]
    rw [fev_rd x1']
    simp only [fe_cons, execOp, opd, putT, put, nth, Nat.reduceAdd, Int.reduceNeg]
    rw [fev_rd g1]
    simp only [fe_cons, fev_pure, core1, u8, tyr, execOp, opd, putT, put, nth, und, sizeOf, getO, moved, fieldAddr, List.getElem?_cons_zero, Nat.reduceAdd, Int.reduceNeg, Nat.zero_add]
    rw [fev_rd x2']
    simp only [fe_cons, execOp, opd, putT, put, nth, Nat.reduceAdd, Int.reduceNeg]
    rw [fev_rd g2]
    simp only [fe_nil, fe_cons, fev_pure, core1, u8, fgr, execOp, opd, putT, put, nth, forgetL, bor, binInt, shiftB, intOp, Nat.reduceAdd, Int.reduceNeg, decide_true, decide_false, u8, c1']
    refine ⟨(by (try simp (disch := omega) only [fine, List.all_cons, List.all_nil, clash_pr, clash_rr, Bool.not_false, Bool.true_or, Bool.and_true]); repeat' (first | rfl | exact (Bool.or_eq_true _ _).mpr (.inr rfl) | refine (Bool.and_eq_true _ _).mpr ⟨?_, ?_⟩)), ?_⟩
    refine run_draw.2 ⟨rfl, ?_⟩
    simp only [fe_cons, fev_pure, core1, tyr, execOp, opd, putT, put, nth, und, sizeOf, getO, moved, fieldAddr, List.getElem?_cons_zero, Nat.reduceAdd, Int.reduceNeg, Nat.zero_add]
    rw [fev_rd x1']
    simp only [fe_cons, execOp, opd, putT, put, nth, Nat.reduceAdd, Int.reduceNeg]
    rw [fev_rd g1]
    simp only [fe_cons, fev_pure, core1, u8, tyr, execOp, opd, putT, put, nth, und, sizeOf, getO, moved, fieldAddr, List.getElem?_cons_zero, Nat.reduceAdd, Int.reduceNeg, Nat.zero_add]
    rw [fev_rd x2']
    simp only [fe_cons, execOp, opd, putT, put, nth, Nat.reduceAdd, Int.reduceNeg]
    rw [fev_rd g2]
    by_cases c2 : h2[i] < h1[i]
    · have c2' : ((h2[i].toNat : Nat) : Int) < ((h1[i].toNat : Nat) : Int) := by rw [UInt8.lt_iff_toNat_lt] at c2; omega
      rw [if_pos c2] at he
      simp only [fe_nil, fe_cons, fev_pure, core1, u8, fgr, execOp, opd, ofValue, putT, put, nth, forgetL, bor, binInt, shiftB, intOp, Nat.reduceAdd, Int.reduceNeg, gt_iff_lt, decide_true, u8, c2']
      refine ⟨(by (try simp (disch := omega) only [fine, List.all_cons, List.all_nil, clash_pr, clash_rr, Bool.not_false, Bool.true_or, Bool.and_true]); repeat' (first | rfl | exact (Bool.or_eq_true _ _).mpr (.inr rfl) | refine (Bool.and_eq_true _ _).mpr ⟨?_, ?_⟩)), ?_⟩
      exact hR 1 _ _ _ _ _ _ _ _ (by decide) he.symm
    · have c2' : ¬ ((h2[i].toNat : Nat) : Int) < ((h1[i].toNat : Nat) : Int) := by rw [UInt8.lt_iff_toNat_lt] at c2; omega
      rw [if_neg c2] at he
      simp only [fe_nil, fe_cons, fev_pure, core1, u8, fgr, execOp, opd, ofValue, putT, put, nth, forgetL, bor, binInt, shiftB, intOp, wrapI, Nat.reduceAdd, Int.reduceNeg, gt_iff_lt, decide_true, decide_false, u8, c2']
      refine ⟨(by (try simp (disch := omega) only [fine, List.all_cons, List.all_nil, clash_pr, clash_rr, Bool.not_false, Bool.true_or, Bool.and_true]); repeat' (first | rfl | exact (Bool.or_eq_true _ _).mpr (.inr rfl) | refine (Bool.and_eq_true _ _).mpr ⟨?_, ?_⟩)), ?_⟩
      simp only [Int.reduceNeg, w1]
      exact ih (i + 1) _ _ _ _ _ _ _ (by omega) he
theorem f87 (h1 h2 : List UInt8) (n1 n2 : Int) (l1 : h1.length = 32) (l2 : h2.length = 32) (h : Hp) (n : Nat) (hf : Free h n) :
    Wp (callI env (evalW env) 87 [.agg (pcells h1 n1), .agg (pcells h2 n2)]) h n fun v' h' n' => v' = .int .i64 (cmpP h1 n1 h2 n2) ∧ Old h h' n := by
  refine wp_callI ff87 fi87 ?_
  simp only [fu87, Try.f87, Option.getD_some, List.replicate, core1, execOp, opd, nth, ended, resultOf, oneOrTup, List.cons_append, List.nil_append, List.length_cons, List.length_nil, Nat.reduceAdd, Nat.reduceSub, Int.reduceNeg, Nat.zero_add, wp_pure]
  refine opv_box (v := .agg (pcells h1 n1)) ti28 rfl hf fun H1 r1 o1 f1 => ?_
  simp only [core1, execOp, opd, putT, put, nth, Int.reduceNeg]
  refine opv_box (v := .agg (pcells h2 n2)) ti28 rfl f1 fun H2 r2 o2 f2 => ?_
  simp only [core1, fgr, execOp, opd, ofValue, putT, put, forgetL, Int.reduceNeg]
  have r1' : Row H2 n (pcells h1 n1) := r1.keep (o2 n (by omega))
  have r2' : Row H2 (n + 1) (pcells h2 n2) := r2
  have old2 : Old h H2 n := fun j hj => by rw [o2 j (by omega), o1 j (by omega)]
  refine loop87 _ _ n (n + 1) h1 h2 n1 n2 l1 l2 H2 _ r1' r2' ?_ ?_ 32 0 _ _ _ _ _ _ _ (by omega) (by rw [List.drop_zero, List.drop_zero])
  · intro x0 x1 x5 x7 x18 x27 x32 x37 he
    simp only [core1, tyr, execOp, opd, putT, put, nth, und, sizeOf, getO, moved, fieldAddr, List.getElem?_cons_succ, List.getElem?_cons_zero, Int.reduceNeg, Nat.zero_add]
    rw [opv_rd (r1'.one (pcells_n l1) ti26 rfl)]
    simp only [core1, tyr, execOp, opd, putT, put, nth, und, sizeOf, getO, moved, fieldAddr, List.getElem?_cons_succ, List.getElem?_cons_zero, Int.reduceNeg, Nat.zero_add]
    rw [opv_rd (r2'.one (pcells_n l2) ti26 rfl)]
    by_cases c1 : n1 < n2
    · simp only [core1, fgr, execOp, opd, ofValue, putT, put, nth, forgetL, bor, binInt, shiftB, intOp, Int.reduceNeg, decide_true, true_and, c1]
      exact ⟨by simp [cmpP, orI, he, cmpI, c1], old2⟩
    simp only [core1, tyr, fgr, execOp, opd, putT, put, nth, forgetL, und, sizeOf, bor, binInt, shiftB, intOp, getO, moved, fieldAddr, List.getElem?_cons_succ, List.getElem?_cons_zero, Int.reduceNeg, decide_true, decide_false, Nat.zero_add, c1]
    rw [opv_rd (r1'.one (pcells_n l1) ti26 rfl)]
    simp only [core1, tyr, execOp, opd, putT, put, nth, und, sizeOf, getO, moved, fieldAddr, List.getElem?_cons_succ, List.getElem?_cons_zero, Nat.zero_add]
    rw [opv_rd (r2'.one (pcells_n l2) ti26 rfl)]
    by_cases c2 : n2 < n1
    · simp only [core1, fgr, execOp, opd, ofValue, putT, put, nth, forgetL, bor, binInt, shiftB, intOp, gt_iff_lt, decide_true, true_and, c2]
      exact ⟨by simp [cmpP, orI, he, cmpI, c1, c2], old2⟩
    · simp only [core1, fgr, execOp, opd, ofValue, putT, put, nth, forgetL, bor, binInt, shiftB, intOp, gt_iff_lt, decide_true, decide_false, true_and, c2]
      exact ⟨by simp [cmpP, orI, he, cmpI, c1, c2], old2⟩
  · intro r x0 x1 x5 x7 x18 x27 x32 x37 h0 he
    simp only [core1, nth, Int.reduceNeg, true_and]
    exact ⟨by simp [cmpP, orI, he, h0], old2⟩
/- The reference: are two versions the same? -/
theorem eql25 (a b : List UInt8) (l1 : a.length = 32) (l2 : b.length = 32) : binOp env .eql 25 (.agg (a.map u8)) (.agg (b.map u8)) = M.pure (.bool (decide (a = b))) := by
  have e := eq25 98 a b l1 l2
  show binOther env .eql 25 (.agg (a.map u8)) (.agg (b.map u8)) = _
  unfold binOther
  simp only
  unfold equalTop
  rw [e, bind_pure]
/-- Are they the same? -/
def eqVr (v w : Ver) : Bool := decide (cmpP v.hash v.pn w.hash w.pn = 0) && (decide (v.made = w.made) && (decide (v.value = w.value) && ((v.base == w.base) && (decide (v.spent = w.spent) && (decide (v.by_ = w.by_) && (v.script == w.script))))))
set_option maxHeartbeats 4000000 in
theorem f42 (v w : Ver) (sv sw : AVal) (ov : v.Ok) (ow : w.Ok) (h : Hp) (n : Nat) (hb : Bytes h sv v.script) (hb2 : Bytes h sw w.script) (hn1 : ∀ j, ownId sv = some j → j < n) (hn2 : ∀ j, ownId sw = some j → j < n) (hf : Free h n) :
    Wp (callI env (evalW env) 42 [.agg (vcells v sv), .agg (vcells w sw)]) h n fun v' h' n' => v' = .bool (eqVr v w) ∧ Old h h' n := by
  refine wp_callI ff42 fi42 ?_
  simp only [fu42, Try.f42, Option.getD_some, List.replicate, core1, execOp, opd, nth, ended, resultOf, oneOrTup, List.cons_append, List.nil_append, List.length_cons, List.length_nil, Nat.reduceAdd, Nat.reduceSub, Nat.zero_add, wp_pure]
  refine opv_box (v := .agg (vcells v sv)) ti31 rfl hf fun H1 r1 o1 f1 => ?_
  simp only [core1, execOp, opd, putT, put, nth]
  refine opv_box (v := .agg (vcells w sw)) ti31 rfl f1 fun H2 r2 o2 f2 => ?_
  have r1' : Row H2 n (vcells v sv) := r1.keep (o2 n (by omega))
  have r2' : Row H2 (n + 1) (vcells w sw) := r2
  have old2 : Old h H2 n := fun j hj => by rw [o2 j (by omega), o1 j (by omega)]
  simp only [core1, tyr, fgr, execOp, opd, ofValue, putT, put, nth, forgetL, und, sizeOf, getO, moved, fieldAddr, List.getElem?_cons_zero, Nat.zero_add]
  rw [opv_rd (row_pt r1' ov)]
  simp only [core1, tyr, execOp, opd, putT, put, nth, und, sizeOf, getO, moved, fieldAddr, List.getElem?_cons_zero, Nat.zero_add]
  rw [opv_rd (row_pt r2' ow)]
  simp only [core1, hkr, execOp, opd, opds, putT, put, nth, doCall, callV_func, List.nil_append, List.append_nil]
  refine opv_callf f2 (f87 v.hash w.hash v.pn w.pn ov.h ow.h H2 _ f2) fun v3 h3 n3 hn3 f3 ⟨e3, o3⟩ => ?_
  subst e3
  have r1' := r1'.keep (o3 n (by omega))
  have r2' := r2'.keep (o3 (n + 1) (by omega))
  have old3 : Old h h3 n := fun j hj => by rw [o3 j (by omega), old2 j hj]
  have b1 := hb.keep (h' := h3) (fun j q => old3 j (hn1 j q))
  have b2 := hb2.keep (h' := h3) (fun j q => old3 j (hn2 j q))
  by_cases c0 : cmpP v.hash v.pn w.hash w.pn = 0
  rotate_left
  · simp only [core1, fgr, execOp, opd, ofValue, putT, put, nth, forgetL, bor, binInt, shiftB, intOp, doPick, branch, List.getElem?_cons_succ, List.getElem?_cons_zero, int_beq, decide_true, decide_false, true_and, c0]
    exact ⟨by simp [eqVr, c0], old3⟩
  simp only [core1, tyr, fgr, execOp, opd, ofValue, putT, put, nth, forgetL, und, sizeOf, bor, binInt, shiftB, intOp, getO, moved, fieldAddr, List.getElem?_cons_succ, List.getElem?_cons_zero, decide_true, Nat.zero_add, beq_self_eq_true, c0]
  rw [opv_rd (row_made r1' ov)]
  simp only [core1, tyr, execOp, opd, putT, put, nth, und, sizeOf, getO, moved, fieldAddr, List.getElem?_cons_succ, List.getElem?_cons_zero, Nat.zero_add]
  rw [opv_rd (row_made r2' ow)]
  by_cases c1 : v.made = w.made
  rotate_left
  · simp only [core1, fgr, execOp, opd, ofValue, putT, put, nth, forgetL, bor, binInt, shiftB, intOp, doPick, branch, List.getElem?_cons_succ, List.getElem?_cons_zero, int_beq, decide_true, decide_false, true_and, c1]
    exact ⟨by simp [eqVr, c0, c1], old3⟩
  simp only [core1, tyr, execOp, opd, ofValue, putT, put, nth, und, sizeOf, bor, binInt, shiftB, intOp, doPick, branch, getO, moved, fieldAddr, List.getElem?_cons_succ, List.getElem?_cons_zero, decide_true, Nat.zero_add, beq_self_eq_true, c1]
  rw [opv_rd (row_value r1' ov)]
  simp only [core1, tyr, execOp, opd, putT, put, nth, und, sizeOf, getO, moved, fieldAddr, List.getElem?_cons_succ, List.getElem?_cons_zero, Nat.zero_add]
  rw [opv_rd (row_value r2' ow)]
  by_cases c2 : v.value = w.value
  rotate_left
  · simp only [core1, fgr, execOp, opd, ofValue, putT, put, nth, forgetL, bor, binInt, shiftB, intOp, doPick, branch, List.getElem?_cons_succ, List.getElem?_cons_zero, int_beq, decide_true, decide_false, true_and, c2]
    exact ⟨by simp [eqVr, c0, c1, c2], old3⟩
  simp only [core1, tyr, execOp, opd, ofValue, putT, put, nth, und, sizeOf, bor, binInt, shiftB, intOp, doPick, branch, getO, moved, fieldAddr, List.getElem?_cons_succ, List.getElem?_cons_zero, decide_true, Nat.zero_add, beq_self_eq_true, c2]
  rw [opv_rd (row_base r1' ov)]
  simp only [core1, tyr, execOp, opd, putT, put, nth, und, sizeOf, getO, moved, fieldAddr, List.getElem?_cons_succ, List.getElem?_cons_zero, Nat.zero_add]
  rw [opv_rd (row_base r2' ow)]
  by_cases c3 : v.base = w.base
  rotate_left
  · have cb : (v.base == w.base) = false := beq_eq_false_iff_ne.2 c3
    simp only [core1, tyr, fgr, execOp, opd, ofValue, putT, put, nth, forgetL, und, bor, binOther, strK, aggK, doPick, branch, equalTop, equal, nilFn, nilPtr, boolOf, List.getElem?_cons_succ, List.getElem?_cons_zero, true_and, cb]
    exact ⟨by simp [eqVr, c0, c1, c2, c3], old3⟩
  have cb : (v.base == w.base) = true := beq_iff_eq.2 c3
  simp only [core1, tyr, execOp, opd, ofValue, putT, put, nth, und, sizeOf, bor, binOther, strK, aggK, doPick, branch, getO, moved, fieldAddr, equalTop, equal, nilFn, nilPtr, boolOf, List.getElem?_cons_succ, List.getElem?_cons_zero, Nat.zero_add, cb]
  rw [opv_rd (row_spent r1' ov)]
  simp only [core1, tyr, execOp, opd, putT, put, nth, und, sizeOf, getO, moved, fieldAddr, List.getElem?_cons_succ, List.getElem?_cons_zero, Nat.zero_add]
  rw [opv_rd (row_spent r2' ow)]
  by_cases c4 : v.spent = w.spent
  rotate_left
  · simp only [core1, fgr, execOp, opd, ofValue, putT, put, nth, forgetL, bor, binInt, shiftB, intOp, doPick, branch, List.getElem?_cons_succ, List.getElem?_cons_zero, int_beq, decide_true, decide_false, true_and, c4]
    exact ⟨by simp [eqVr, c0, c1, c2, c3, c4], old3⟩
  simp only [core1, tyr, execOp, opd, ofValue, putT, put, nth, und, sizeOf, bor, binInt, shiftB, intOp, doPick, branch, getO, moved, fieldAddr, List.getElem?_cons_succ, List.getElem?_cons_zero, decide_true, Nat.zero_add, beq_self_eq_true, c4]
  rw [opv_rd (row_by r1' ov)]
  simp only [core1, tyr, execOp, opd, putT, put, nth, und, sizeOf, getO, moved, fieldAddr, List.getElem?_cons_succ, List.getElem?_cons_zero, Nat.zero_add]
  rw [opv_rd (row_by r2' ow)]
  have hq := eql25 v.by_ w.by_ ov.b ow.b
  by_cases c5 : v.by_ = w.by_
  rotate_left
  · rw [decide_eq_false c5] at hq
    simp only [core1, fgr, execOp, opd, ofValue, putT, put, nth, forgetL, doPick, branch, List.getElem?_cons_succ, List.getElem?_cons_zero, true_and, hq]
    exact ⟨by simp [eqVr, c0, c1, c2, c3, c4, c5], old3⟩
  rw [decide_eq_true c5] at hq
  simp only [core1, tyr, execOp, opd, ofValue, putT, put, nth, und, sizeOf, doPick, branch, getO, moved, fieldAddr, List.getElem?_cons_succ, List.getElem?_cons_zero, Nat.zero_add, hq]
  rw [opv_rd (row_script r1' ov)]
  simp only [core1, execOp, opd, putT, put, nth, List.getElem?_cons_succ, List.getElem?_cons_zero]
  rw [b1.str t29 t9 t5]
  simp only [core1, tyr, execOp, opd, putT, put, nth, und, sizeOf, getO, moved, fieldAddr, List.getElem?_cons_succ, List.getElem?_cons_zero, Nat.zero_add]
  rw [opv_rd (row_script r2' ow)]
  simp only [core1, execOp, opd, putT, put, nth, List.getElem?_cons_succ, List.getElem?_cons_zero]
  rw [b2.str t29 t9 t5]
  simp only [core1, fgr, execOp, opd, ofValue, putT, put, nth, forgetL, bor, strOp, strK, doPick, branch, List.getElem?_cons_succ, List.getElem?_cons_zero, str_beq, true_and]
  exact ⟨by simp [eqVr, c0, c1, c2, c3, c4, c5]; rw [Bool.eq_iff_iff]; simp, old3⟩
/- What is put and dropped, plainly. -/
theorem pos_le (o : Bool) (L : List Ver) (v : Ver) : pos o L v ≤ L.length := List.countP_le_length
/-- Every rising list has a place for one. -/
theorem pos_pos {o : Bool} {L : List Ver} (r : Rises o L) (v : Ver) : Pos o L v (pos o L v) := by
  induction L with
  | nil => exact ⟨Nat.le_refl _, fun k hk => absurd hk (Nat.not_lt_zero _), fun k hk => absurd hk (Nat.not_lt_zero _)⟩
  | cons a L ih =>
    have r' : Rises o L := (List.pairwise_cons.1 r).2
    have ra := (List.pairwise_cons.1 r).1
    have i := ih r'
    by_cases c : cmpO o a v < 0
    · have e : pos o (a :: L) v = pos o L v + 1 := by unfold pos; rw [List.countP_cons, if_pos (decide_eq_true c)]
      rw [e]
      refine ⟨by have := i.le; simp; omega, fun k hk h => ?_, fun k hk h => ?_⟩
      · cases k with
        | zero => exact c
        | succ k => exact i.lo k (by simpa using hk) (by omega)
      · cases k with
        | zero => omega
        | succ k => exact i.hi k (by simpa using hk) (by omega)
    · have all : ∀ b ∈ L, ¬ cmpO o b v < 0 := fun b hb h => c ((ordO o).lt _ _ _ (ra b hb) h)
      have e : pos o (a :: L) v = 0 := by
        unfold pos
        rw [List.countP_eq_zero]
        intro b hb
        rcases List.mem_cons.1 hb with rfl | hb
        · simpa using c
        · simpa using all b hb
      rw [e]
      refine ⟨Nat.zero_le _, fun k hk h => absurd h (Nat.not_lt_zero _), fun k hk h => ?_⟩
      cases k with
      | zero => exact c
      | succ k => exact all _ (List.getElem_mem _)
theorem pos_drop {L : List Ver} {w v : Ver} (r : Rises false L) (hw : w ∈ L) (he : cmpV w v = 0) : pos false (dropV L w) v = pos false L w := by
  obtain ⟨hp, hpw⟩ := pos_at r (pos_pos r w) hw
  have pm := (delL_perm hp).countP_eq (fun u => decide (cmpO false u w < 0))
  have e : ∀ u : Ver, cmpO false u v = cmpO false u w := fun u => (ordV.eqr (d := u) he).symm
  show (delL L (pos false L w)).countP (fun u => decide (cmpO false u v < 0)) = _
  simp only [e]
  rw [List.countP_cons, if_neg (by
    rw [hpw]
    have := ordV.refl w
    simp only [decide_eq_true_eq]
    show ¬ cmpV w w < 0
    omega)] at pm
  exact pm.symm
/-- A version in the place of one. -/
theorem put_drop {L : List Ver} {w v : Ver} (r : Rises false L) (hw : w ∈ L) (he : cmpV w v = 0) : putV (dropV L w) v = L.set (pos false L w) v := by
  obtain ⟨hp, hpw⟩ := pos_at r (pos_pos r w) hw
  have ht : (L.take (pos false L w)).length = pos false L w := by rw [List.length_take]; omega
  unfold putV
  rw [pos_drop r hw he]
  unfold dropV insL delL
  rw [List.take_left' ht, List.drop_left' ht, List.set_eq_take_append_cons_drop, if_pos hp]
/- The reference's order of versions, and whether one is there. -/
theorem f45 (v w : Ver) (sv sw : AVal) (ov : v.Ok) (ow : w.Ok) (h : Hp) (n : Nat) (hf : Free h n) :
    Wp (callI env (evalW env) 45 [.agg (vcells v sv), .agg (vcells w sw)]) h n fun v' h' n' => v' = .int .i64 (cmpV v w) ∧ Old h h' n := by
  refine wp_callI ff45 fi45 ?_
  simp only [fu45, Try.f45, Option.getD_some, List.replicate, core1, execOp, opd, nth, ended, resultOf, oneOrTup, List.cons_append, List.nil_append, List.length_cons, List.length_nil, Nat.reduceAdd, Nat.reduceSub, Int.reduceNeg, Nat.zero_add, wp_pure]
  refine opv_box (v := .agg (vcells v sv)) ti31 rfl hf fun H1 r1 o1 f1 => ?_
  simp only [core1, execOp, opd, putT, put, nth, Int.reduceNeg]
  refine opv_box (v := .agg (vcells w sw)) ti31 rfl f1 fun H2 r2 o2 f2 => ?_
  have r1' : Row H2 n (vcells v sv) := r1.keep (o2 n (by omega))
  have r2' : Row H2 (n + 1) (vcells w sw) := r2
  have old2 : Old h H2 n := fun j hj => by rw [o2 j (by omega), o1 j (by omega)]
  simp only [core1, tyr, fgr, execOp, opd, ofValue, putT, put, nth, forgetL, und, sizeOf, getO, moved, fieldAddr, List.getElem?_cons_zero, Int.reduceNeg, Nat.zero_add]
  rw [opv_rd (row_pt r1' ov)]
  simp only [core1, tyr, execOp, opd, putT, put, nth, und, sizeOf, getO, moved, fieldAddr, List.getElem?_cons_zero, Int.reduceNeg, Nat.zero_add]
  rw [opv_rd (row_pt r2' ow)]
  simp only [core1, hkr, execOp, opd, opds, putT, put, nth, doCall, callV_func, List.nil_append, List.append_nil, Int.reduceNeg]
  refine opv_callf f2 (f87 v.hash w.hash v.pn w.pn ov.h ow.h H2 _ f2) fun v3 h3 n3 hn3 f3 ⟨e3, o3⟩ => ?_
  subst e3
  have r1' := r1'.keep (o3 n (by omega))
  have r2' := r2'.keep (o3 (n + 1) (by omega))
  have old3 : Old h h3 n := fun j hj => by rw [o3 j (by omega), old2 j hj]
  by_cases c0 : cmpP v.hash v.pn w.hash w.pn = 0
  rotate_left
  · have c0' : (cmpP v.hash v.pn w.hash w.pn != 0) = true := bne_iff_ne.2 c0
    simp only [core1, fgr, execOp, opd, ofValue, putT, put, nth, forgetL, bor, binInt, shiftB, intOp, int_bne, Int.reduceNeg, not_false_eq_true, decide_true, true_and, c0]
    exact ⟨by simp [cmpV, orI, c0], old3⟩
  simp only [core1, tyr, fgr, execOp, opd, ofValue, putT, put, nth, forgetL, und, sizeOf, bor, binInt, shiftB, intOp, getO, moved, fieldAddr, List.getElem?_cons_succ, List.getElem?_cons_zero, Int.reduceNeg, decide_true, Nat.zero_add, bne_self_eq_false, c0]
  rw [opv_rd (row_made r1' ov)]
  simp only [core1, tyr, execOp, opd, putT, put, nth, und, sizeOf, getO, moved, fieldAddr, List.getElem?_cons_succ, List.getElem?_cons_zero, Int.reduceNeg, Nat.zero_add]
  rw [opv_rd (row_made r2' ow)]
  by_cases c1 : v.made < w.made
  · simp only [core1, fgr, execOp, opd, ofValue, putT, put, nth, forgetL, bor, binInt, shiftB, intOp, Int.reduceNeg, decide_true, true_and, c1]
    exact ⟨by simp [cmpV, orI, c0, cmpI, c1], old3⟩
  simp only [core1, tyr, fgr, execOp, opd, putT, put, nth, forgetL, und, sizeOf, bor, binInt, shiftB, intOp, getO, moved, fieldAddr, List.getElem?_cons_succ, List.getElem?_cons_zero, Int.reduceNeg, decide_true, decide_false, Nat.zero_add, c1]
  rw [opv_rd (row_made r1' ov)]
  simp only [core1, tyr, execOp, opd, putT, put, nth, und, sizeOf, getO, moved, fieldAddr, List.getElem?_cons_succ, List.getElem?_cons_zero, Nat.zero_add]
  rw [opv_rd (row_made r2' ow)]
  by_cases c2 : w.made < v.made
  · simp only [core1, fgr, execOp, opd, ofValue, putT, put, nth, forgetL, bor, binInt, shiftB, intOp, gt_iff_lt, decide_true, true_and, c2]
    exact ⟨by simp [cmpV, orI, c0, cmpI, c1, c2], old3⟩
  · simp only [core1, fgr, execOp, opd, ofValue, putT, put, nth, forgetL, bor, binInt, shiftB, intOp, gt_iff_lt, decide_true, decide_false, true_and, c2]
    exact ⟨by simp [cmpV, orI, c0, cmpI, c1, c2], old3⟩
theorem f46 (v : Ver) (sv : AVal) (ov : v.Ok) (z : Int) (h : Hp) (n : Nat) (hf : Free h n) :
    Wp (callI env (evalW env) 46 [.agg (vcells v sv), .int .i64 z]) h n fun v' h' n' => v' = .bool (there v z) ∧ Old h h' n := by
  refine wp_callI ff46 fi46 ?_
  simp only [fu46, Try.f46, Option.getD_some, List.replicate, core1, execOp, opd, nth, ended, resultOf, oneOrTup, List.cons_append, List.nil_append, List.length_cons, List.length_nil, Nat.reduceAdd, Nat.reduceSub, Nat.zero_add, wp_pure]
  refine opv_box (v := .agg (vcells v sv)) ti31 rfl hf fun H1 r1 o1 f1 => ?_
  have old1 : Old h H1 n := fun j hj => o1 j (by omega)
  simp only [core1, tyr, fgr, execOp, opd, ofValue, putT, put, nth, forgetL, und, sizeOf, getO, moved, fieldAddr, List.getElem?_cons_succ, List.getElem?_cons_zero, Nat.zero_add]
  rw [opv_rd (row_made r1 ov)]
  by_cases c1 : z < v.made
  · simp only [core1, fgr, execOp, opd, ofValue, putT, put, nth, forgetL, bor, binInt, shiftB, intOp, gt_iff_lt, decide_true, true_and, c1]
    exact ⟨by simp [there]; omega, old1⟩
  have c1' : v.made ≤ z := by omega
  simp only [core1, tyr, fgr, execOp, opd, putT, put, nth, forgetL, und, sizeOf, bor, binInt, shiftB, intOp, getO, moved, fieldAddr, List.getElem?_cons_succ, List.getElem?_cons_zero, gt_iff_lt, decide_true, decide_false, Nat.zero_add, c1]
  rw [opv_rd (row_spent r1 ov)]
  by_cases c2 : v.spent = 0
  · simp only [core1, fgr, execOp, opd, ofValue, putT, put, nth, forgetL, bor, binInt, shiftB, intOp, doPick, branch, List.getElem?_cons_succ, List.getElem?_cons_zero, decide_true, true_and, beq_self_eq_true, c2]
    exact ⟨by simp [there, c1', c2], old1⟩
  simp only [core1, tyr, execOp, opd, ofValue, putT, put, nth, und, sizeOf, bor, binInt, shiftB, intOp, getO, moved, fieldAddr, List.getElem?_cons_succ, List.getElem?_cons_zero, int_beq, decide_true, decide_false, Nat.zero_add, c2]
  rw [opv_rd (row_spent r1 ov)]
  by_cases c3 : z < v.spent
  · simp only [core1, fgr, execOp, opd, ofValue, putT, put, nth, forgetL, bor, binInt, shiftB, intOp, doPick, branch, List.getElem?_cons_succ, List.getElem?_cons_zero, decide_true, true_and, c3]
    exact ⟨by simp [there, c1', c2, c3], old1⟩
  · simp only [core1, fgr, execOp, opd, ofValue, putT, put, nth, forgetL, bor, binInt, shiftB, intOp, doPick, branch, List.getElem?_cons_succ, List.getElem?_cons_zero, decide_true, decide_false, true_and, c3]
    exact ⟨by simp [there, c1', c2, c3], old1⟩
/- A script's versions at a height. -/
noncomputable def L43 (tm : List AVal) : ALoop := { state := .ready, pending := none, fn := 43, tmps := tm, params := [19], assign := ra43_0, body := rb43_0 }
/-- A script, to be looked for. -/
def keyS (script : List UInt8) : Ver := ⟨List.replicate 32 0, 0, 0, 0, script, false, 0, List.replicate 32 0⟩
theorem keyS_ok (script : List UInt8) : (keyS script).Ok := ⟨rfl, rfl⟩
def z35 : List AVal := List.replicate 32 (.int .u8 0) ++ [.int .u32 0, .int .i64 0, .int .i64 0]
def z34 : List AVal := [.bool false, .int .i64 0] ++ List.replicate 32 (.int .u8 0)
theorem z31b : ty31.i.zero.cells = z35 ++ [.nils] ++ z34 := rfl
theorem build31s {sv : AVal} {script : List UInt8} (hs : sv.cells = [sv] ∧ oneCell sv = true ∧ isJunk sv = false) : build env 31 [(3, sv)] = M.pure (.agg (vcells (keyS script) sv)) := by
  have e1 : ∀ pl : Nat → Option (Nat × Nat), pl 3 = some (35, 1) → fill pl ty31.i.zero.cells [(3, sv)] = some (vcells (keyS script) sv) := fun pl p0 => by
    rw [z31b, fill_at p0 rfl rfl (by rw [hs.1]; rfl) hs.2.2, hs.1]
    simp only [fill]
    congr 1
  have e2 : build env 31 [(3, sv)] = (getO "build" (fill ([(0, 33), (33, 1), (34, 1), (35, 1), (36, 1), (37, 1), (38, 32)][·]?) ty31.i.zero.cells [(3, sv)])).bind fun cs => M.pure (.agg cs) := rfl
  rw [e2, e1 _ rfl]
  rfl
/-- Those told up to k. -/
def told (S : List Ver) (p k : Nat) (z : Int) : List Ver := ((S.take k).drop p).filter fun v => there v z
theorem told_0 (S : List Ver) (p : Nat) (z : Int) : told S p p z = [] := by
  unfold told
  rw [List.drop_eq_nil_of_le (by rw [List.length_take]; omega)]; rfl
theorem told_s {L : List Ver} {p k : Nat} (hp : p ≤ k) (hk : k < L.length) (z : Int) : told L p (k + 1) z = if there L[k] z then told L p k z ++ [L[k]] else told L p k z := by
  unfold told
  rw [List.take_add_one, List.getElem?_eq_getElem hk, List.drop_append_of_le_length (by rw [List.length_take]; omega), List.filter_append]
  by_cases c : there L[k] z = true
  · rw [if_pos c]; simp [c]
  · rw [if_neg c]; simp [c]
theorem told_le (L : List Ver) (p k : Nat) (z : Int) : (told L p k z).length ≤ L.length := by
  unfold told
  have h1 := List.length_filter_le (fun v => there v z) ((L.take k).drop p)
  have h2 : ((L.take k).drop p).length ≤ L.length := by rw [List.length_drop, List.length_take]; omega
  omega
structure P43 (H7 : Hp) (n : Nat) (S : List Ver) (script : List UInt8) (z : Int) (nS k : Nat) (h1 : Hp) (n1 : Nat) : Prop where
  fr : Free h1 n1
  n7 : n + 1 + 1 + 1 + 1 + 1 + 1 + 1 ≤ nS
  ns : nS ≤ n1
  kp : ∀ j, j < n + 1 + 1 + 1 + 1 + 1 + 1 + 1 → j ≠ n + 1 + 1 → j ≠ n + 1 + 1 + 1 + 1 + 1 + 1 → h1 j = H7 j
  cl : ∃ acc cells, h1 (n + 1 + 1) = some (.row (.l [acc]) 43) ∧ Lst h1 31 70 acc (told S (pos true S (keyS script)) k z).length cells ∧ Vs h1 (fun j => nS ≤ j ∧ j < n1 ∧ ownId acc ≠ some j) cells (told S (pos true S (keyS script)) k z) ∧ ∀ j, ownId acc = some j → nS ≤ j
  sm : ∀ i (hi : i < S.length), pos true S (keyS script) ≤ i → i < k → S[i].script = script
theorem f43 (x : Nat) (sv : AVal) (script : List UInt8) (z : Int) (L : List Ver) (D M : Nat → Prop) (h : Hp) (n : Nat) (hs : Ix h n D M x L) (hb : Bytes h sv script) (hsn : ∀ j, ownId sv = some j → j < n) (hc : L.length ≤ 1000000) (hf : Free h n) :
    Wp (callI env (evalW env) 43 [.ptr x 0, sv, .int .i64 z]) h n fun v' h' n' => Old h h' n ∧ ∃ S k, Rises true S ∧ L.Perm S ∧ pos true S (keyS script) ≤ k ∧ (∀ i (hi : i < S.length), pos true S (keyS script) ≤ i → i < k → S[i].script = script) ∧ (∀ hk : k < S.length, S[k].script ≠ script) ∧ VL h' n n' v' (told S (pos true S (keyS script)) k z) := by
  obtain ⟨⟨S, s0, rS, perm⟩, rL, ok⟩ := hs
  obtain ⟨vl, vs, xl, xs, iv, mx, ml, ms, mn⟩ := s0
  refine wp_callI ff43 fi43 ?_
  simp only [fu43, Try.f43, Option.getD_some, List.replicate, core1, execOp, opd, nth, ended, resultOf, oneOrTup, List.cons_append, List.nil_append, List.length_cons, List.length_nil, Nat.reduceAdd, Nat.reduceSub, Nat.zero_add, wp_pure]
  refine opv_box (v := sv) ti29 hb.kind.2.2 hf fun H1 r1 o1 f1 => ?_
  rw [hb.kind.1] at r1
  simp only [core1, execOp, opd, putT, put, nth]
  refine opv_box (v := .int .i64 z) ti3 rfl f1 fun H2 r2 o2 f2 => ?_
  simp only [core1, tyr, fgr, hkr, execOp, opd, opds, ofValue, putT, put, nth, forgetL, doCall, callV_func, zeroOf, cel, alloc, doAlloc, newRow, List.nil_append, List.append_nil]
  obtain ⟨H3, hH3⟩ : ∃ H3, H3 = upd H2 (n + 1 + 1) (some (Blk.row (Cont.l [AVal.nils]) 43)) := ⟨_, rfl⟩
  rw [← hH3]
  have f3 : Free H3 (n + 1 + 1 + 1) := by rw [hH3]; exact f2.new
  have o3 : ∀ j, j ≠ n + 1 + 1 → H3 j = H2 j := fun j hj => by rw [hH3, upd_ne _ _ hj]
  have r3 : H3 (n + 1 + 1) = some (Blk.row (Cont.l [AVal.nils]) 43) := by rw [hH3, upd_same]
  clear hH3
  have old3 : Old h H3 n := fun j hj => by rw [o3 j (by omega), o2 j (by omega), o1 j (by omega)]
  have r1' : Row H3 n [sv] := (r1.keep (o2 n (by omega))).keep (o3 n (by omega))
  have r2' : Row H3 (n + 1) [.int .i64 z] := r2.keep (o3 (n + 1) (by omega))
  refine opv_same (f73 x _ true H3 _ (iv.row.keep (old3 x iv.xn)) rfl) ?_
  simp only [core1, fgr, opd, putT, put, nth, forgetL, Bool.not_true]
  refine run_draw.2 ⟨rfl, ?_⟩
  simp only [fe_cons, fev_pure, core1, tyr, execOp, opd, putT, put, nth, und, sizeOf, nilCheck, getO, moved, fieldAddr, List.getElem?_cons_succ, List.getElem?_cons_zero, Nat.reduceAdd, Nat.zero_add]
  rw [fev_rd (r1'.one (off := 0) rfl ti29 rfl)]
  simp only [fe_cons, fev_pure, execOp, opd, ops2, putT, put, nth, cel, alloc, Nat.reduceAdd, build31s (script := script) hb.kind]
  refine fev_row' (xs := vcells (keyS script) sv) ti31 f3 fun H4 r4 o4 f4 => ?_
  simp only [fe_cons, hkr, execOp, opd, opds, putT, put, nth, doCall, callV_func, List.nil_append, List.append_nil, Nat.reduceAdd]
  refine fev_any f4 (f88 x 3 (n + 1 + 1 + 1) H4 _) fun v3 h3 n3 r3w w3 hn3 f5 ⟨e3, eh3, en3⟩ => ?_
  subst e3; subst en3
  simp only [fe_nil, core1, fgr, putT, put, forgetL, Nat.reduceAdd]
  refine ⟨(by (try simp (disch := first | assumption | omega) only [fine, List.all_cons, List.all_nil, clash_pl, clash_pr, clash_rr, Bool.not_false, Bool.true_or, Bool.and_true, Bool.true_and, clash_xn]); repeat' (first | rfl | exact (Bool.or_eq_true _ _).mpr (.inr rfl) | refine (Bool.and_eq_true _ _).mpr ⟨?_, ?_⟩)), ?_⟩
  have row4 : Row h3 (n + 1 + 1 + 1 + 1) [.ptr x 3] := by rw [eh3]; exact (Row.new _ _ _ _).upd (by omega)
  have row5 : Row h3 (n + 1 + 1 + 1 + 1 + 1) [.ptr (n + 1 + 1 + 1) 0] := by rw [eh3]; exact Row.new _ _ _ _
  have o5 : ∀ j, j < n + 1 + 1 + 1 + 1 → h3 j = H4 j := fun j hj => by rw [eh3, upd_ne _ _ (by omega), upd_ne _ _ (by omega)]
  clear eh3
  refine run_range (g := 109) (first := []) (cap := [.ptr (n + 1 + 1 + 1 + 1) 0, .ptr (n + 1 + 1 + 1 + 1 + 1) 0]) rfl rfl ?_
  let TM : List AVal := (.ptr x 0 :: sv :: .int .i64 z :: AVal.junk :: .ptr n 0 :: .ptr (n + 1) 0 :: .nils :: .ptr (n + 1 + 1) 0 :: undef :: AVal.junk :: .bool false :: AVal.junk :: AVal.junk :: AVal.junk :: AVal.junk :: AVal.junk :: AVal.junk :: AVal.junk :: .fn (.func 109) [] [.ptr (n + 1 + 1 + 1 + 1) 0, .ptr (n + 1 + 1 + 1 + 1 + 1) 0] :: undef :: AVal.junk :: AVal.junk :: AVal.junk :: AVal.junk :: AVal.junk :: AVal.junk :: undef :: AVal.junk :: AVal.junk :: AVal.junk :: AVal.junk :: undef :: AVal.junk :: AVal.junk :: AVal.junk :: AVal.junk :: AVal.junk :: AVal.junk :: AVal.junk :: AVal.junk :: [])
  obtain ⟨H7, hH7⟩ : ∃ H7, H7 = upd h3 (n + 1 + 1 + 1 + 1 + 1 + 1) (some (Blk.loop (L43 TM))) := ⟨_, rfl⟩
  show Wp (callF env (evalW env) 109 [AVal.fn (Fn.yield (n + 1 + 1 + 1 + 1 + 1 + 1)) [] [], AVal.ptr (n + 1 + 1 + 1 + 1) 0, AVal.ptr (n + 1 + 1 + 1 + 1 + 1) 0]) (upd h3 (n + 1 + 1 + 1 + 1 + 1 + 1) (some (Blk.loop (L43 TM)))) _ _
  rw [hk109, ← hH7]
  have f7 : Free H7 (n + 1 + 1 + 1 + 1 + 1 + 1 + 1) := by rw [hH7]; exact f5.new
  have o7 : ∀ j, j ≠ n + 1 + 1 + 1 + 1 + 1 + 1 → H7 j = h3 j := fun j hj => by rw [hH7, upd_ne _ _ hj]
  have g6 : H7 (n + 1 + 1 + 1 + 1 + 1 + 1) = some (.loop (L43 TM)) := by rw [hH7, upd_same]
  clear hH7
  have old7 : Old h H7 n := fun j hj => by rw [o7 j (by omega), o5 j (by omega), o4 j (by omega), old3 j hj]
  have g0 : Row H7 n [sv] := ((r1'.keep (o4 n (by omega))).keep (o5 n (by omega))).keep (o7 n (by omega))
  have g1 : Row H7 (n + 1) [.int .i64 z] := ((r2'.keep (o4 (n + 1) (by omega))).keep (o5 (n + 1) (by omega))).keep (o7 (n + 1) (by omega))
  have g2 : H7 (n + 1 + 1) = some (Blk.row (Cont.l [AVal.nils]) 43) := by rw [o7 _ (by omega), o5 _ (by omega), o4 _ (by omega)]; exact r3
  have g3 : Row H7 (n + 1 + 1 + 1) (vcells (keyS script) sv) := by
    refine Row.keep (h := H4) ⟨_, r4⟩ ?_
    rw [o7 _ (by omega), o5 _ (by omega)]
  have lt : ∀ (j : Nat), j < n → ∀ (h1 : Hp), (∀ j, j < n + 1 + 1 + 1 + 1 + 1 + 1 + 1 → j ≠ n + 1 + 1 → j ≠ n + 1 + 1 + 1 + 1 + 1 + 1 → h1 j = H7 j) → h1 j = H7 j := fun j hj h1 hk => hk j (by omega) (by omega) (by omega)
  have hS : S.length = L.length := perm.length_eq.symm
  have kt : AtN H7 (n + 1 + 1 + 1 + 1 + 1 + 1 + 1) (n + 1 + 1 + 1) sv (keyS script) := ⟨⟨g3, hb.keep (fun j q => old7 j (hsn j q)), keyS_ok _⟩, by omega, fun j q => by have := hsn j q; omega⟩
  have sl7 := iv.s.keep (h' := H7) (fun j q => old7 j (mn j (ms j q)).1)
  have sp7 := iv.sp.mono (h' := H7) (D' := D) (fun j q => q) (fun j q => old7 j (iv.dn j q))
  have hro : Roomy vs := by
    have q := iv.s
    generalize S.length = len at q
    cases q with
    | nil => trivial
    | zero => exact Nat.le_refl _
    | sl => trivial
  refine wp_mono ((f109 true (.fn (.yield (n + 1 + 1 + 1 + 1 + 1 + 1)) [] []) (n + 1 + 1 + 1 + 1) (n + 1 + 1 + 1 + 1 + 1) x 3 _ vs (n + 1 + 1 + 1) sv (keyS script) S.length xs S D
    (fun k h1 n1 => ∃ nS, P43 H7 n S script z nS k h1 n1 ∧ h1 (n + 1 + 1 + 1 + 1 + 1 + 1) = some (.loop (L43 TM)))
    (fun h1 n1 => ∃ l nS k, h1 (n + 1 + 1 + 1 + 1 + 1 + 1) = some (.loop l) ∧ l.state = .done ∧ l.pending = some (.exit 0) ∧ pos true S (keyS script) ≤ k ∧ P43 H7 n S script z nS k h1 n1 ∧ ∀ hk : k < S.length, S[k].script ≠ script)
    H7 (n + 1 + 1 + 1 + 1 + 1 + 1 + 1) (row4.keep (o7 _ (by omega))) (row5.keep (o7 _ (by omega))) (iv.row.keep (old7 x iv.xn)) rfl rfl (by omega) sl7.rds hro (fun j q => by have := (mn j (ms j q)).1; omega) sp7 (fun j q => by have := iv.dn j q; omega) kt (rS.mono _) f7 (by omega) (by have := iv.xn; omega) ?_ ?_ ?_).free f7) ?_
  · rintro k h1 n1 ⟨nS, p, _⟩
    exact ⟨sl7.rds.keep (fun j q => lt j (mn j (ms j q)).1 h1 p.kp), sp7.mono (fun j q => q) (fun j q => lt j (iv.dn j q) h1 p.kp), p.fr⟩
  · intro p h' n' hpos hn' hf' ho'
    rw [hpos.eq]
    exact ⟨n', ⟨hf', by omega, Nat.le_refl _, fun j hj _ _ => ho' j hj, ⟨.nils, [], (ho' _ (by omega)).trans g2, by rw [told_0]; exact .nil, by rw [told_0]; exact Vs.nil _ _, fun j q => by cases q⟩, fun i hi h1 h2 => by omega⟩, (ho' _ (by omega)).trans g6⟩
  · rintro p k hk id sv2 h1 n1 hpos hpk ⟨nS, pp, hlo⟩ hx a d1 d2
    have hpk' : pos true S (keyS script) ≤ k := by rw [← hpos.eq]; exact hpk
    have hidn := iv.dn id d1
    have h77 := pp.n7
    have hns := pp.ns
    refine wp_yield hlo rfl rfl ?_
    simp only [ra43_0, List.getD_cons_zero, putAll, List.zip_cons_cons, List.zip_nil_left, L43, TM, rangesOf, Try.f43, Option.getD_some, core1, fgr, execOp, opd, putT, put, nth, forgetL, List.nil_append, List.append_nil, true_and]
    refine ⟨_, hlo, rfl, ?_⟩
    obtain ⟨h2, hh2⟩ : ∃ h2, h2 = upd h1 (n + 1 + 1 + 1 + 1 + 1 + 1) (some (Blk.loop { L43 TM with state := .busy })) := ⟨_, rfl⟩
    have ho2 : ∀ j, j ≠ n + 1 + 1 + 1 + 1 + 1 + 1 → h2 j = h1 j := fun j hj => by rw [hh2, upd_ne _ _ hj]
    have hlo2 : h2 (n + 1 + 1 + 1 + 1 + 1 + 1) = some (.loop { L43 TM with state := .busy }) := by rw [hh2, upd_same]
    have hf2 : Free h2 n1 := by rw [hh2]; exact pp.fr.upd (by omega)
    show Run env 43 _ _ _ _ _ (upd h1 (n + 1 + 1 + 1 + 1 + 1 + 1) (some (Blk.loop { L43 TM with state := .busy }))) n1
    rw [← hh2]
    clear hh2
    have a2 : At h2 id sv2 S[k] := a.keep (ho2 id (by omega)) (fun j q => ho2 j (by have := iv.dn j (d2 j q); omega))
    have to7 : ∀ j, j < n + 1 + 1 → h2 j = H7 j := fun j hj => (ho2 j (by omega)).trans (pp.kp j (by omega) (by omega) (by omega))
    have rs : Row h2 n [sv] := g0.keep (to7 n (by omega))
    have rz : Row h2 (n + 1) [.int .i64 z] := g1.keep (to7 (n + 1) (by omega))
    have bs : Bytes h2 sv script := hb.keep (fun j q => (to7 j (by have := hsn j q; omega)).trans (old7 j (hsn j q)))
    obtain ⟨acc, cells, q1, q2, q3, q4⟩ := pp.cl
    simp only [rb43_0, List.getD_cons_zero, rangesOf, Try.f43, Option.getD_some, core1, List.nil_append, List.append_nil]
    refine run_draw.2 ⟨rfl, ?_⟩
    simp only [fe_cons, fev_pure, core1, tyr, execOp, opd, putT, put, nth, und, sizeOf, nilCheck, getO, moved, fieldAddr, List.getElem?_cons_succ, List.getElem?_cons_zero, Nat.reduceAdd, Nat.zero_add]
    rw [fev_rd (row_script a2.row a2.ok)]
    simp only [fe_cons, execOp, opd, putT, put, nth, Nat.reduceAdd]
    rw [fev_rd (rs.one (off := 0) rfl ti29 rfl)]
    simp only [fe_cons, hkr, execOp, opd, opds, putT, put, nth, doCall, callV_func, List.nil_append, List.append_nil, Nat.reduceAdd]
    refine fev_any hf2 (f89 sv2 sv _ script h2 n1 a2.s bs) fun v6 h6 n6 r6 w6 hn6 f6' ⟨e6, e7, e8⟩ => ?_
    subst e6; subst e7; subst e8
    cases hq : (S[k].script == script) with
    | false =>
      simp only [fe_nil, fe_cons, fev_pure, core1, cont_block_any, fgr, execOp, opd, putT, put, nth, forgetL, unOp, Nat.reduceAdd, Bool.not_false]
      refine ⟨(by (try simp (disch := first | assumption | omega) only [fine, List.all_cons, List.all_nil, clash_pl, clash_pr, clash_rr, Bool.not_false, Bool.true_or, Bool.and_true, Bool.true_and]); repeat' (first | rfl | exact (Bool.or_eq_true _ _).mpr (.inr rfl) | refine (Bool.and_eq_true _ _).mpr ⟨?_, ?_⟩)), _, hlo2, .inr ⟨.inl rfl, _, nS, k, upd_same _ _ _, rfl, rfl, hpk', ⟨hf2.upd (by omega), h77, hns, fun j hj h1' h2' => by rw [upd_ne _ _ h2', ho2 j h2']; exact pp.kp j hj h1' h2', ⟨acc, cells, by rw [upd_ne _ _ (by omega), ho2 _ (by omega)]; exact q1, q2.keep (fun j q => by rw [upd_ne _ _ (by have := q4 j q; omega), ho2 _ (by have := q4 j q; omega)]), q3.mono (fun j q => q) (fun j q => by rw [upd_ne _ _ (by omega), ho2 _ (by omega)]), q4⟩, pp.sm⟩, fun _ => beq_eq_false_iff_ne.1 hq⟩⟩
    | true =>
      simp only [fe_nil, fe_cons, fev_pure, core1, fgr, execOp, opd, putT, put, nth, forgetL, unOp, Nat.reduceAdd, Bool.not_true]
      refine ⟨(by (try simp (disch := first | assumption | omega) only [fine, List.all_cons, List.all_nil, clash_pl, clash_pr, clash_rr, Bool.not_false, Bool.true_or, Bool.and_true, Bool.true_and]); repeat' (first | rfl | exact (Bool.or_eq_true _ _).mpr (.inr rfl) | refine (Bool.and_eq_true _ _).mpr ⟨?_, ?_⟩)), ?_⟩
      have hsc : S[k].script = script := beq_iff_eq.1 hq
      have sm' : ∀ i (hi : i < S.length), pos true S (keyS script) ≤ i → i < k + 1 → S[i].script = script := fun i hi h1' h2' => by
        by_cases e : i = k
        · subst e; exact hsc
        · exact pp.sm i hi h1' (by omega)
      refine run_draw.2 ⟨rfl, ?_⟩
      simp only [fe_cons, fev_pure, execOp, opd, putT, put, nth, nilCheck, Nat.reduceAdd, Nat.zero_add]
      rw [fev_rd (row_all a2.row a2.ok)]
      simp only [fe_cons, execOp, opd, putT, put, nth, Nat.reduceAdd]
      rw [fev_rd (rz.one (off := 0) rfl ti3 rfl)]
      simp only [fe_cons, hkr, execOp, opd, opds, putT, put, nth, doCall, callV_func, List.nil_append, List.append_nil, Nat.reduceAdd]
      refine fev_any hf2 (f82 S[k] sv2 a2.ok z h6 n6 hf2) fun v7 h8 n8 r7 w7 hn8 f8 ⟨e7, o8⟩ => ?_
      subst e7
      have hlo8 : h8 (n + 1 + 1 + 1 + 1 + 1 + 1) = some (.loop { L43 TM with state := .busy }) := (o8 _ (by omega)).trans hlo2
      have keep8 : ∀ j, j < n6 → j ≠ n + 1 + 1 + 1 + 1 + 1 + 1 → h8 j = h1 j := fun j hj hne => (o8 j hj).trans (ho2 j hne)
      cases hth : there S[k] z with
      | false =>
        simp only [fe_nil, core1, fgr, opd, putT, put, nth, forgetL, Nat.reduceAdd]
        refine ⟨(by (try simp (disch := first | assumption | omega) only [fine, List.all_cons, List.all_nil, clash_pl, clash_pr, clash_rr, Bool.not_false, Bool.true_or, Bool.and_true]); repeat' (first | rfl | exact (Bool.or_eq_true _ _).mpr (.inr rfl) | refine (Bool.and_eq_true _ _).mpr ⟨?_, ?_⟩)), _, hlo8, .inl ⟨.inl rfl, nS, ⟨f8.upd (by omega), h77, by omega, fun j hj h1' h2' => by rw [upd_ne _ _ h2', keep8 j (by omega) h2']; exact pp.kp j hj h1' h2', ⟨acc, cells, by rw [upd_ne _ _ (by omega), keep8 _ (by omega) (by omega)]; exact q1, ?_, ?_, q4⟩, sm'⟩, upd_same _ _ _⟩⟩
        · rw [told_s hpk' hk, hth]
          exact q2.keep (fun j q => by rw [upd_ne _ _ (by have := q4 j q; omega), keep8 _ (q2.live pp.fr q) (by have := q4 j q; omega)])
        · rw [told_s hpk' hk, hth]
          exact q3.mono (fun j q => ⟨q.1, by omega, q.2.2⟩) (fun j q => by rw [upd_ne _ _ (by omega), keep8 _ q.2.1 (by omega)])
      | true =>
        simp only [fe_nil, core1, fgr, opd, putT, put, nth, forgetL, Nat.reduceAdd]
        refine ⟨(by (try simp (disch := first | assumption | omega) only [fine, List.all_cons, List.all_nil, clash_pl, clash_pr, clash_rr, Bool.not_false, Bool.true_or, Bool.and_true]); repeat' (first | rfl | exact (Bool.or_eq_true _ _).mpr (.inr rfl) | refine (Bool.and_eq_true _ _).mpr ⟨?_, ?_⟩)), ?_⟩
        have a8 : At h8 id sv2 S[k] := a2.keep (o8 id (by omega)) (fun j q => o8 j (by have := iv.dn j (d2 j q); omega))
        have cell : Row h8 (n + 1 + 1) [acc] := ⟨_, (keep8 _ (by omega) (by omega)).trans q1⟩
        refine run_draw.2 ⟨rfl, ?_⟩
        simp only [fe_cons, execOp, opd, nth]
        rw [fev_rd (cell.one (off := 0) rfl ti43 rfl)]
        simp only [fe_cons, fev_pure, execOp, opd, putT, put, nth, nilCheck, Nat.reduceAdd, Nat.zero_add]
        rw [fev_rd (row_all a8.row a8.ok)]
        simp only [fe_cons, hkr, execOp, opd, opds, putT, put, nth, doCall, callV_func, List.nil_append, List.append_nil, Nat.reduceAdd]
        have fo8 : Free (only (fun j => decide (ownId sv2 = some j)) h8) n8 := fun j hj => by
          unfold only
          split
          · exact f8 j hj
          · rfl
        refine fev_in (fun j => decide (ownId sv2 = some j)) f8 (f77 S[k] sv2 a8.ok (only (fun j => decide (ownId sv2 = some j)) h8) n8 (a8.s.keep fun j q => only_in (decide_eq_true q)) (fun j q => by have := iv.dn j (d2 j q); omega) (ok _ (perm.mem_iff.2 (List.getElem_mem hk))).2 fo8) fun v9 h9 n9 r9 w9 hr9 hn9 f9 ⟨s', e9, b9, i9, o9⟩ hin hout hr hw => ?_
        subst e9
        have old9 : Old h8 h9 n8 := fun j hj => by
          by_cases q : ownId sv2 = some j
          · rw [hin j (.inl (decide_eq_true q)), o9 j hj, only_in (decide_eq_true q)]
          · exact hout j hj (decide_eq_false q)
        have b9' : Bytes h9 s' S[k].script := b9.keep (fun j q => hin j (.inr (i9 j q).1))
        simp only [fe_cons, execOp, opd, ops2, putT, put, nth, Nat.reduceAdd, bs43 (vcells_len a8.ok.h a8.ok.b)]
        refine fev_row' ti31 f9 fun H10 r10 o10 f10 => ?_
        simp only [fe_cons, execOp, opd, opds, putT, put, nth, doCall, builtin, two2, Nat.reduceAdd]
        have old10 : Old h8 H10 n8 := fun j hj => by rw [o10 j (by omega), old9 j hj]
        have accl : ∀ j, ownId acc = some j → j < n6 := fun j q => q2.live pp.fr q
        have acck : ∀ j, ownId acc = some j → H10 j = h1 j := fun j q => by rw [old10 j (by have := accl j q; omega), keep8 j (accl j q) (by have := q4 j q; omega)]
        have tl := told_le S (pos true S (keyS script)) k z
        refine fev_any f10 (wp_lst_append (i := ty31.i) (e := 31) (Q1 := fun v' h' n' => n9 + 1 ≤ n' ∧ Free h' n' ∧ Lst h' 31 70 v' ((told S (pos true S (keyS script)) k z).length + 1) (cells ++ vcells S[k] s') ∧ (ownId v' = ownId acc ∨ ownId v' = some (n9 + 1) ∧ n9 + 1 < n') ∧ ∀ j, j < n9 + 1 → ownId acc ≠ some j → h' j = H10 j) (q2.keep acck) (row_rds (cnt := 1) r10 (by rw [vcells_len a8.ok.h a8.ok.b]; rfl)) u43 u43 ti31 (vcells_cell b9.kind.2.1) (by decide) (by show 2 * (_ + 1) * 128 ≤ _; omega) (by omega) f10 (fun v' h' n' a b c d e => ⟨a, b, c, d, e⟩)) fun v11 h11 n11 r11 w11 hn11 f11 ⟨_, _, l11, i11, o11⟩ => ?_
        have o111 : ∀ j, j < n8 → ownId acc ≠ some j → j ≠ n + 1 + 1 + 1 + 1 + 1 + 1 → j < n6 → h11 j = h1 j := fun j a b c d => by rw [o11 j (by omega) b, old10 j a, keep8 j d c]
        have c11 : h11 (n + 1 + 1) = some (Blk.row (Cont.l [acc]) 43) := (o111 _ (by omega) (fun q => by have := q4 _ q; omega) (by omega) (by omega)).trans q1
        have l11n : ∀ j, j < n9 + 1 → ownId acc ≠ some j → ownId v11 ≠ some j := fun j hj hn q => by
          rcases i11 with w | ⟨w, _⟩
          · rw [w] at q; exact hn q
          · rw [w] at q; injection q with q; omega
        have nw : n + 1 + 1 ∉ w9 := fun q => by have := iv.dn _ (d2 _ (of_decide_eq_true (hw _ q))); omega
        have nr : n + 1 + 1 ∉ r9 := fun q => by have := iv.dn _ (d2 _ (of_decide_eq_true (hr _ q))); omega
        have v11k := l11.rds.kind
        have v11n : ∀ j, ownId v11 = some j → nS ≤ j := fun j q => by
          rcases i11 with w | ⟨w, _⟩
          · rw [w] at q; exact q4 j q
          · rw [w] at q; injection q with q; omega
        simp only [fe_cons, execOp, opd, putT, put, nth, Nat.reduceAdd]
        refine fev_wr (Row.write (v := v11) c11 ti43 (by rw [v11k.1]; rfl) (by show 0 + 1 ≤ 1; omega) (by rw [v11k.1]; simp [v11k.2.1])) ?_
        rw [v11k.1, show splice [acc] 0 [v11] = [v11] from rfl]
        simp only [fe_nil, core1, fgr, putT, forgetL, Nat.reduceAdd]
        refine ⟨(by (try simp (disch := first | assumption | omega) only [fine, List.all_cons, List.all_nil, clash_pl, clash_pr, clash_rr, Bool.not_false, Bool.true_or, Bool.and_true, Bool.true_and, clash_rw, clash_nw, clash_xn, clash_xs]); repeat' (first | rfl | exact (Bool.or_eq_true _ _).mpr (.inr rfl) | refine (Bool.and_eq_true _ _).mpr ⟨?_, ?_⟩)), _, (upd_ne _ _ (by omega)).trans ((o11 _ (by omega) (fun q => by have := q4 _ q; omega)).trans ((old10 _ (by omega)).trans hlo8)), .inl ⟨.inl rfl, nS, ⟨(f11.upd (by omega)).upd (by omega), h77, by omega, fun j hj h1' h2' => ?_, ⟨v11, cells ++ vcells S[k] s', by rw [upd_ne _ _ (by omega), upd_same], ?_, ?_, v11n⟩, sm'⟩, upd_same _ _ _⟩⟩
        · rw [upd_ne _ _ h2', upd_ne _ _ h1', o111 j (by omega) (fun q => by have := q4 j q; omega) h2' (by omega)]; exact pp.kp j hj h1' h2'
        · rw [told_s hpk' hk, hth, if_pos rfl, List.length_append]
          exact l11.keep (fun j q => by rw [upd_ne _ _ (by have := v11n j q; omega), upd_ne _ _ (by have := v11n j q; omega)])
        · rw [told_s hpk' hk, hth, if_pos rfl]
          have ne2 : ∀ j, nS ≤ j → ∀ (H : Hp) b b2, upd (upd H (n + 1 + 1) b) (n + 1 + 1 + 1 + 1 + 1 + 1) b2 j = H j := fun j hj H b b2 => by rw [upd_ne _ _ (by omega), upd_ne _ _ (by omega)]
          refine (q3.mono (fun j q => ⟨q.1, by omega, l11n j (by omega) q.2.2⟩) (fun j q => by rw [ne2 j q.1, o111 j (by omega) q.2.2 (by omega) q.2.1])).snoc (b9'.keep fun j q => ?_) a8.ok (fun j q => ⟨by have := i9 j q; omega, by have := i9 j q; omega, l11n j (by have := i9 j q; omega) (fun w => by have := accl j w; have := i9 j q; omega)⟩)
          rw [ne2 j (by have := i9 j q; omega), o11 j (by have := i9 j q; omega) (fun w => by have := accl j w; have := i9 j q; omega), o10 j (by have := i9 j q; omega)]
  · rintro v5 h5 n5 ⟨⟨e5, hh⟩, hn5, f5'⟩
    have fin : ∀ (lo : ALoop) (nS k : Nat), pos true S (keyS script) ≤ k → P43 H7 n S script z nS k h5 n5 → (∀ hk : k < S.length, S[k].script ≠ script) →
        ∃ acc, Row (upd h5 (n + 1 + 1 + 1 + 1 + 1 + 1) (some (.loop lo))) (n + 1 + 1) [acc] ∧ Old h (upd h5 (n + 1 + 1 + 1 + 1 + 1 + 1) (some (.loop lo))) n ∧ ∃ S k, Rises true S ∧ L.Perm S ∧ pos true S (keyS script) ≤ k ∧ (∀ i (hi : i < S.length), pos true S (keyS script) ≤ i → i < k → S[i].script = script) ∧ (∀ hk : k < S.length, S[k].script ≠ script) ∧ VL (upd h5 (n + 1 + 1 + 1 + 1 + 1 + 1) (some (.loop lo))) n n5 acc (told S (pos true S (keyS script)) k z) := by
      intro lo nS k hk1 p hk3
      obtain ⟨acc, cells, c1, c2, c3, c4⟩ := p.cl
      have h7 := p.n7
      refine ⟨acc, ⟨_, (upd_ne _ _ (by omega)).trans c1⟩, fun j hj => ?_, S, k, rS, perm, hk1, p.sm, hk3, cells, c2.keep (fun j q => upd_ne _ _ (by have := c4 j q; omega)), c3.mono (fun j q => ⟨by omega, q.2.1, q.2.2⟩) (fun j q => upd_ne _ _ (by omega)), fun j q => ⟨by have := c4 j q; omega, c2.live p.fr q⟩⟩
      rw [upd_ne _ _ (by omega), lt j hj h5 p.kp, old7 j hj]
    rcases hh with ⟨nS, p, hlo⟩ | ⟨l, nS, k, hlo, hst, hpe, hk1, p, hk3⟩
    · refine ⟨_, hlo, (fun q => by cases q), .normal, rfl, ?_⟩
      obtain ⟨acc, hrow, res⟩ := fin { L43 TM with state := .exhausted } nS S.length (pos_le _ _ _) p (fun hk => absurd hk (Nat.lt_irrefl _))
      simp only [core1, execOp, opd, nth]
      rw [opv_rd (hrow.one (off := 0) rfl ti43 rfl)]
      simp only [core1, fgr, execOp, opd, putT, put, nth, forgetL, true_and]
      exact res
    · refine ⟨_, hlo, (fun q => by rw [hst] at q; cases q), .exit 0, by rw [hpe], ?_⟩
      obtain ⟨acc, hrow, res⟩ := fin { l with state := .exhausted } nS k hk1 p hk3
      simp only [core1, execOp, opd, nth]
      rw [opv_rd (hrow.one (off := 0) rfl ti43 rfl)]
      simp only [core1, fgr, execOp, opd, putT, put, nth, forgetL, true_and]
      exact res
/-- Two rising lists of the same versions. -/
theorem rises_perm {o : Bool} : ∀ {A B : List Ver}, Rises o A → Rises o B → A.Perm B → A = B
  | [], B, _, _, h => (List.nil_perm.1 h).symm
  | a :: A, [], _, _, h => absurd (List.perm_nil.1 h) (by simp)
  | a :: A, b :: B, ra, rb, h => by
    have ha := List.pairwise_cons.1 ra
    have hb := List.pairwise_cons.1 rb
    have e : a = b := by
      by_cases q : a = b
      · exact q
      · have h1 : a ∈ B := (List.mem_cons.1 (h.mem_iff.1 List.mem_cons_self)).resolve_left q
        have h2 : b ∈ A := (List.mem_cons.1 (h.mem_iff.2 List.mem_cons_self)).resolve_left (fun w => q w.symm)
        have c1 := ha.1 b h2
        have c2 := hb.1 a h1
        have := (ordO o).anti a b
        omega
    subst e
    rw [rises_perm ha.2 hb.2 ((List.perm_cons a).1 h)]
def cmpQ (a b : Ver) : Int := cmpP a.hash a.pn b.hash b.pn
theorem ordQ : Ord3 cmpQ := (ord_bytes.on Ver.hash).or (ord_cmpI.on Ver.pn)
theorem same_iff {hash : List UInt8} {pn : Int} {v : Ver} : same hash pn v = true ↔ cmpP v.hash v.pn hash pn = 0 := by
  unfold same cmpP orI
  constructor
  · intro h
    simp only [Bool.and_eq_true, decide_eq_true_eq, beq_iff_eq] at h
    rw [h.1, h.2, if_pos (cb_refl _)]
    exact cmpI_eq.2 rfl
  · intro h
    split at h
    · rename_i q
      rw [cb_eq _ _ q, cmpI_eq.1 h]
      simp
    · contradiction
/-- What there is of an outpoint at a height: the last one. -/
def atV (L : List Ver) (hash : List UInt8) (pn z : Int) : Option Ver := (L.filter fun v => same hash pn v && there v z).getLast?
/-- What may stand in an index. -/
def Good (v : Ver) : Prop := errV v = false ∧ 0 ≤ v.pn
theorem Good.made {v : Ver} (h : Good v) : 0 ≤ v.made := by
  have := h.1
  unfold errV at this
  simp only [Bool.or_eq_false_iff, decide_eq_false_iff_not] at this
  omega
theorem orI_neg {a b : Int} (h : orI a b < 0) : a ≤ 0 := by
  unfold orI at h
  split at h <;> omega
theorem orI_nn {a b : Int} (h : ¬ orI a b < 0) (hn : a ≠ 0) : 0 < a := by
  unfold orI at h
  rw [if_neg hn] at h
  omega
theorem past {o : Ver → Ver → Int} (q : Ord3 o) {a b t : Ver} (h1 : 0 < o a t) (h2 : o a b ≤ 0) : 0 < o b t := by
  have e1 := q.anti a t
  have e2 := q.anti b t
  rcases Int.lt_or_eq_of_le h2 with w | w
  · have := q.lt t a b (by omega) w; omega
  · have := q.eqr (d := t) w; omega
/-- A part of a list, cut out by a test. -/
theorem cut_filter {L : List Ver} {p k : Nat} (hpk : p ≤ k) (P th : Ver → Bool) (h1 : ∀ i (hi : i < L.length), i < p → P L[i] = false) (h2 : ∀ i (hi : i < L.length), p ≤ i → i < k → P L[i] = true) (h3 : ∀ i (hi : i < L.length), k ≤ i → P L[i] = false) :
    ((L.take k).drop p).filter th = L.filter fun v => P v && th v := by
  have e : L = L.take p ++ ((L.take k).drop p ++ L.drop k) := by
    rw [← List.append_assoc]
    have : L.take p = (L.take k).take p := by rw [List.take_take, Nat.min_eq_left hpk]
    rw [this, List.take_append_drop, List.take_append_drop]
  conv => rhs; rw [e]
  rw [List.filter_append, List.filter_append]
  have f1 : (L.take p).filter (fun v => P v && th v) = [] := by
    rw [List.filter_eq_nil_iff]
    intro a ha
    obtain ⟨i, hi, rfl⟩ := List.mem_iff_getElem.1 ha
    rw [List.length_take] at hi
    rw [List.getElem_take, h1 i (by omega) (by omega)]
    simp
  have f3 : (L.drop k).filter (fun v => P v && th v) = [] := by
    rw [List.filter_eq_nil_iff]
    intro a ha
    obtain ⟨i, hi, rfl⟩ := List.mem_iff_getElem.1 ha
    rw [List.length_drop] at hi
    rw [List.getElem_drop, h3 (k + i) (by omega) (by omega)]
    simp
  rw [f1, f3, List.append_nil, List.nil_append]
  refine List.filter_congr fun a ha => ?_
  obtain ⟨i, hi, rfl⟩ := List.mem_iff_getElem.1 ha
  rw [List.length_drop, List.length_take] at hi
  have q := h2 (p + i) (by omega) (by omega) (by omega)
  rw [List.getElem_drop, List.getElem_take, q, Bool.true_and]
theorem at_cut {L : List Ver} {hash : List UInt8} {pn : Int} {k : Nat} (r : Rises false L) (g : ∀ v ∈ L, Good v) (hk : pos false L (key hash pn 0) ≤ k)
    (sm : ∀ i (hi : i < L.length), pos false L (key hash pn 0) ≤ i → i < k → same hash pn L[i] = true) (ne : ∀ hk : k < L.length, same hash pn L[k] = false) (th : Ver → Bool) :
    ((L.take k).drop (pos false L (key hash pn 0))).filter th = L.filter fun v => same hash pn v && th v := by
  have P := pos_pos r (key hash pn 0)
  have nn : ∀ i (hi : i < L.length), pos false L (key hash pn 0) ≤ i → same hash pn L[i] = false → 0 < cmpQ L[i] (key hash pn 0) := fun i hi h1 h2 =>
    orI_nn (P.hi i hi h1) fun q => by have w : same hash pn L[i] = true := same_iff.2 q; rw [w] at h2; cases h2
  refine cut_filter hk _ _ (fun i hi h => ?_) sm (fun i hi h => ?_)
  · cases hs : same hash pn L[i] with
    | false => rfl
    | true =>
      have h0 := P.lo i hi h
      have h1 : cmpP L[i].hash L[i].pn hash pn = 0 := same_iff.1 hs
      have h2 : cmpV L[i] (key hash pn 0) = cmpI L[i].made 0 := by
        show orI (cmpP L[i].hash L[i].pn hash pn) _ = _
        rw [h1]; rfl
      have h3 := (g _ (List.getElem_mem hi)).made
      have h4 : cmpV L[i] (key hash pn 0) < 0 := h0
      rw [h2, cmpI_lt] at h4
      omega
  · have hkl : k < L.length := by omega
    have h1 := nn k hkl hk (ne hkl)
    have h2 : 0 < cmpQ L[i] (key hash pn 0) := by
      by_cases q : i = k
      · subst q; exact h1
      · exact past ordQ h1 (orI_neg (r.at_ hkl hi (by omega)))
    cases hs : same hash pn L[i] with
    | false => rfl
    | true =>
      have : cmpQ L[i] (key hash pn 0) = 0 := same_iff.1 hs
      omega
theorem at_eq {L : List Ver} {hash : List UInt8} {pn z : Int} {k : Nat} (r : Rises false L) (g : ∀ v ∈ L, Good v) (hk : pos false L (key hash pn 0) ≤ k)
    (sm : ∀ i (hi : i < L.length), pos false L (key hash pn 0) ≤ i → i < k → same hash pn L[i] = true) (ne : ∀ hk : k < L.length, same hash pn L[k] = false) :
    fnd L (pos false L (key hash pn 0)) k z = atV L hash pn z := by
  unfold fnd atV
  rw [at_cut r g hk sm ne]
theorem cb_zeros : ∀ (l : List UInt8), ¬ Lib.compareBytes l (List.replicate l.length 0) < 0
  | [] => by decide
  | a :: l => by
    rw [List.length_cons, List.replicate_succ]
    unfold Lib.compareBytes
    have h1 : ¬ a < 0 := by simp [UInt8.lt_iff_toNat_lt]
    rw [if_neg h1]
    split
    · omega
    · exact cb_zeros l
theorem of_nn {v : Ver} {script : List UInt8} (o : v.Ok) (g : Good v) (hs : v.script = script) : ¬ cmpS v (keyS script) < 0 := by
  have e1 : cmpS v (keyS script) = cmpV v (keyS script) := by
    show orI (Lib.compareBytes v.script script) _ = _
    rw [hs, cb_refl]; rfl
  rw [e1]
  have e2 : cmpV v (keyS script) = orI (orI (Lib.compareBytes v.hash (List.replicate 32 0)) (cmpI v.pn 0)) (cmpI v.made 0) := rfl
  rw [e2]
  have z := cb_zeros v.hash
  rw [o.h] at z
  have m := g.made
  have p := g.2
  have n1 : ¬ cmpI v.pn 0 < 0 := by rw [cmpI_lt]; omega
  have n2 : ¬ cmpI v.made 0 < 0 := by rw [cmpI_lt]; omega
  unfold orI
  split
  · split
    · exact n2
    · exact n1
  · exact z
/-- What there is of a script at a height. -/
def ofV (L : List Ver) (script : List UInt8) (z : Int) : List Ver := L.filter fun v => (v.script == script) && there v z
theorem of_eq {L S : List Ver} {script : List UInt8} {z : Int} {k : Nat} (rL : Rises false L) (rS : Rises true S) (perm : L.Perm S) (ok : ∀ v ∈ L, v.Ok) (g : ∀ v ∈ L, Good v) (hk : pos true S (keyS script) ≤ k)
    (sm : ∀ i (hi : i < S.length), pos true S (keyS script) ≤ i → i < k → S[i].script = script) (ne : ∀ hk : k < S.length, S[k].script ≠ script) :
    told S (pos true S (keyS script)) k z = ofV L script z := by
  have P := pos_pos rS (keyS script)
  have ordB : Ord3 (fun a b : Ver => Lib.compareBytes a.script b.script) := ord_bytes.on Ver.script
  have e1 : told S (pos true S (keyS script)) k z = S.filter fun v => (v.script == script) && there v z := by
    refine cut_filter hk (fun v => v.script == script) _ (fun i hi h => ?_) (fun i hi h1 h2 => beq_iff_eq.2 (sm i hi h1 h2)) (fun i hi h => ?_)
    · cases hs : (S[i].script == script) with
      | false => rfl
      | true =>
        have hm := perm.mem_iff.2 (List.getElem_mem hi)
        exact absurd (P.lo i hi h) (of_nn (ok _ hm) (g _ hm) (beq_iff_eq.1 hs))
    · have hkl : k < S.length := by omega
      have h1 : 0 < Lib.compareBytes S[k].script (keyS script).script := orI_nn (P.hi k hkl hk) fun q => ne hkl (cb_eq _ _ q)
      have h2 : 0 < Lib.compareBytes S[i].script (keyS script).script := by
        by_cases q : i = k
        · subst q; exact h1
        · exact past (o := fun a b : Ver => Lib.compareBytes a.script b.script) (t := keyS script) ordB h1 (orI_neg (rS.at_ hkl hi (by omega)))
      rw [beq_eq_false_iff_ne]
      intro hs
      rw [hs] at h2
      have : Lib.compareBytes script (keyS script).script = 0 := cb_refl script
      omega
  rw [e1]
  refine rises_perm (o := false) ?_ (rL.sublist List.filter_sublist) (perm.symm.filter _)
  refine (List.Pairwise.filter _ rS).imp_of_mem fun {a b} ha hb hab => ?_
  have s1 := (List.mem_filter.1 ha).2
  have s2 := (List.mem_filter.1 hb).2
  simp only [Bool.and_eq_true, beq_iff_eq] at s1 s2
  have : orI (Lib.compareBytes a.script b.script) (cmpV a b) < 0 := hab
  rw [s1.1, s2.1, cb_refl] at this
  exact this
/-- An index with these versions; blocks K are not touched by its calls. -/
structure Ixk (K : Nat → Prop) (h : Hp) (n x : Nat) (L : List Ver) : Prop where
  ix : ∃ D M, Ix h n D M x L ∧ ∀ j, K j → j < n ∧ ¬ M j ∧ ¬ D j
  g : ∀ v ∈ L, Good v
theorem Ixk.rL {K : Nat → Prop} {h : Hp} {n x : Nat} {L : List Ver} (s : Ixk K h n x L) : Rises false L := by
  obtain ⟨⟨D, M, i, _⟩, _⟩ := s
  exact i.r
theorem Ixk.ok {K : Nat → Prop} {h : Hp} {n x : Nat} {L : List Ver} (s : Ixk K h n x L) : ∀ v ∈ L, v.Ok ∧ v.script.length ≤ 1000000 := by
  obtain ⟨⟨D, M, i, _⟩, _⟩ := s
  exact i.ok
theorem Ixk.k {K : Nat → Prop} {h : Hp} {n x : Nat} {L : List Ver} (s : Ixk K h n x L) {j : Nat} (hj : K j) : j < n := by
  obtain ⟨⟨D, M, i, q⟩, _⟩ := s
  exact (q j hj).1
theorem Ixk.sub {K K' : Nat → Prop} {h : Hp} {n x : Nat} {L : List Ver} (s : Ixk K h n x L) (hk : ∀ j, K' j → K j) : Ixk K' h n x L := by
  obtain ⟨⟨D, M, i, q⟩, g⟩ := s
  exact ⟨⟨D, M, i, fun j hj => q j (hk j hj)⟩, g⟩
theorem Ixk.grow {K : Nat → Prop} {h h' : Hp} {n n' x : Nat} {L : List Ver} (s : Ixk K h n x L) (hn : n ≤ n') (ho : Old h h' n) : Ixk (fun j => K j ∨ (n ≤ j ∧ j < n')) h' n' x L := by
  obtain ⟨⟨D, M, i, q⟩, g⟩ := s
  refine ⟨⟨D, M, i.old hn ho, fun j hj => ?_⟩, g⟩
  rcases hj with hj | hj
  · exact ⟨by have := (q j hj).1; omega, (q j hj).2⟩
  · obtain ⟨⟨S, ⟨vl, vs, xl, xs, iv, mx, ml, ms, mn⟩, _⟩, _⟩ := i
    exact ⟨hj.2, fun w => by have := (mn j w).1; omega, fun w => by have := iv.dn j w; omega⟩
theorem Ixk.old {K : Nat → Prop} {h h' : Hp} {n n' x : Nat} {L : List Ver} (s : Ixk K h n x L) (hn : n ≤ n') (ho : Old h h' n) : Ixk K h' n' x L := (s.grow hn ho).sub fun j q => .inl q
theorem Ix.xlt {h : Hp} {n x : Nat} {D M : Nat → Prop} {L : List Ver} (i : Ix h n D M x L) : x < n := by
  obtain ⟨⟨S, ⟨vl, vs, xl, xs, iv, _⟩, _⟩, _⟩ := i
  exact iv.xn
theorem Chg.k {K : Nat → Prop} {h h' : Hp} {n n' : Nat} {D M D' M' : Nat → Prop} (c : Chg h n D M h' n' D' M') (q : ∀ j, K j → j < n ∧ ¬ M j ∧ ¬ D j) : (∀ j, K j → h' j = h j) ∧ ∀ j, K j → j < n' ∧ ¬ M' j ∧ ¬ D' j := by
  refine ⟨fun j hj => c.old j (q j hj).1 (q j hj).2.1, fun j hj => ⟨by have := (q j hj).1; have := c.nx; omega, fun w => ?_, fun w => ?_⟩⟩
  · have := q j hj
    rcases c.m' j w with w | w
    · exact this.2.1 w
    · omega
  · have := q j hj
    rcases c.d' j w with w | w
    · exact this.2.2 w
    · omega
theorem f40k (h : Hp) (n : Nat) (hf : Free h n) : Wp (callI env (evalW env) 40 []) h n fun v' h' n' => ∃ x, v' = .ptr x 0 ∧ n ≤ x ∧ Ixk (fun j => j < n) h' n' x [] ∧ Old h h' n := by
  refine wp_mono (f40 h n hf) fun v' h' n' ⟨x, e, hx, i, o⟩ => ⟨x, e, hx, ⟨⟨_, _, i, fun j hj => ⟨by have := i.xlt; omega, fun q => by omega, fun q => q⟩⟩, fun v hv => (by cases hv)⟩, o⟩
theorem putV_mem {L : List Ver} {v w : Ver} : w ∈ putV L v ↔ w = v ∨ w ∈ L := insL_mem
theorem putV_len (L : List Ver) (v : Ver) : (putV L v).length = L.length + 1 := (insL_perm _ _ _).length_eq.trans rfl
theorem f33k {K : Nat → Prop} {x : Nat} (v : Ver) (sv : AVal) (ov : v.Ok) (hpn : 0 ≤ v.pn) (hsl : v.script.length ≤ 1000000) {L : List Ver} {h : Hp} {n : Nat} (hs : Ixk K h n x L) (hb : Bytes h sv v.script) (hsn : ∀ j, ownId sv = some j → j < n) (hc : L.length ≤ 900000) (hf : Free h n) :
    Wp (callI env (evalW env) 33 [.ptr x 0, .agg (vcells v sv)]) h n fun v' h' n' => (∀ j, K j → h' j = h j) ∧ ((errP v L ∧ v' = .int .i64 210 ∧ Ixk K h' n' x L) ∨ (¬ errP v L ∧ v' = .int .i64 0 ∧ Ixk K h' n' x (putV L v))) := by
  obtain ⟨⟨D, M, i, q⟩, g⟩ := hs
  refine wp_mono (f33 x v sv ov hsl L D M h n i hb hsn hc hf) fun v' h' n' hh => ?_
  rcases hh with ⟨a, b, i', c⟩ | ⟨a, b, D', M', i', c⟩
  · exact ⟨(c.k q).1, .inl ⟨a, b, ⟨⟨_, _, i', (c.k q).2⟩, g⟩⟩⟩
  · refine ⟨(c.k q).1, .inr ⟨a, b, ⟨⟨_, _, i', (c.k q).2⟩, fun w hw => ?_⟩⟩⟩
    rcases putV_mem.1 hw with rfl | hw
    · refine ⟨?_, hpn⟩
      cases e : errV w with
      | false => rfl
      | true => exact absurd (.inl e) a
    · exact g w hw
theorem dropV_sub {L : List Ver} {v w : Ver} (h : w ∈ dropV L v) : w ∈ L := del_mem h
theorem f34k {K : Nat → Prop} {x : Nat} (hash : List UInt8) (pn made : Int) (hl : hash.length = 32) {L : List Ver} {h : Hp} {n : Nat} (hs : Ixk K h n x L) (hc : L.length ≤ 900000) (hf : Free h n) :
    Wp (callI env (evalW env) 34 [.ptr x 0, .agg (pcells hash pn), .int .i64 made]) h n fun v' h' n' => (∀ j, K j → h' j = h j) ∧ (((∀ w ∈ L, cmpV w (key hash pn made) ≠ 0) ∧ v' = .int .i64 210 ∧ Ixk K h' n' x L) ∨ ∃ w, w ∈ L ∧ cmpV w (key hash pn made) = 0 ∧ v' = .int .i64 0 ∧ Ixk K h' n' x (dropV L w)) := by
  obtain ⟨⟨D, M, i, q⟩, g⟩ := hs
  refine wp_mono (f34 x hash pn made hl L D M h n i (by omega) hf) fun v' h' n' ⟨hh, c⟩ => ?_
  rcases hh with ⟨a, b, i'⟩ | ⟨w, a, b, e, i'⟩
  · exact ⟨(c.k q).1, .inl ⟨a, b, ⟨⟨_, _, i', (c.k q).2⟩, g⟩⟩⟩
  · exact ⟨(c.k q).1, .inr ⟨w, a, b, e, ⟨⟨_, _, i', (c.k q).2⟩, fun u hu => g u (dropV_sub hu)⟩⟩⟩
theorem cmpV_made {w : Ver} {hash : List UInt8} {pn made : Int} (h : cmpV w (key hash pn made) = 0) : w.hash = hash ∧ w.pn = pn ∧ w.made = made := by
  have e : cmpV w (key hash pn made) = orI (cmpP w.hash w.pn hash pn) (cmpI w.made made) := rfl
  rw [e] at h
  unfold orI at h
  split at h
  · rename_i q
    have s := same_iff.2 q
    unfold same at s
    simp only [Bool.and_eq_true, decide_eq_true_eq, beq_iff_eq] at s
    exact ⟨s.1, s.2, cmpI_eq.1 h⟩
  · contradiction
/-- The place of one that stands in the list, for another in its stead. -/
def setV (L : List Ver) (w v : Ver) : List Ver := L.set (pos false L w) v
theorem end_set {L : List Ver} {w : Ver} (r : Rises false L) (hw : w ∈ L) (s : Int) (b : List UInt8) : putV (dropV L w) (endV w s b) = setV L w (endV w s b) := put_drop r hw (ordV.refl w)
theorem setV_mem {L : List Ver} {w v u : Ver} (h : u ∈ setV L w v) : u = v ∨ u ∈ L := (List.mem_or_eq_of_mem_set h).symm
theorem setV_len (L : List Ver) (w v : Ver) : (setV L w v).length = L.length := List.length_set
theorem endV_good {w : Ver} (g : Good w) {s : Int} {b : List UInt8} (h : s = 0 ∨ (1 ≤ s ∧ w.made ≤ s)) : Good (endV w s b) := by
  have m := g.made
  refine ⟨?_, g.2⟩
  unfold errV endV
  simp only [Bool.or_eq_false_iff, decide_eq_false_iff_not, Bool.and_eq_false_iff]
  omega
theorem f36k {K : Nat → Prop} {x : Nat} (hash : List UInt8) (pn made s : Int) (b : List UInt8) (hl : hash.length = 32) (hbl : b.length = 32) {L : List Ver} {h : Hp} {n : Nat} (hs : Ixk K h n x L) (hc : L.length ≤ 900000) (hf : Free h n) :
    Wp (callI env (evalW env) 36 [.ptr x 0, .agg (pcells hash pn), .int .i64 made, .int .i64 s, .agg (b.map u8)]) h n fun v' h' n' => (∀ j, K j → h' j = h j) ∧
      (((∀ w ∈ L, cmpV w (key hash pn made) = 0 → (w.spent ≠ 0 ∨ s < 1 ∨ s < made)) ∧ v' = .int .i64 210 ∧ Ixk K h' n' x L) ∨
      (∃ w ∈ L, cmpV w (key hash pn made) = 0 ∧ w.spent = 0 ∧ 1 ≤ s ∧ made ≤ s ∧ v' = .int .i64 0 ∧ Ixk K h' n' x (setV L w (endV w s b)))) := by
  have rL := hs.rL
  obtain ⟨⟨D, M, i, q⟩, g⟩ := hs
  refine wp_mono (f36 x hash pn made s b hl hbl L D M h n i hc hf) fun v' h' n' hh => ?_
  rcases hh with ⟨a, e, i', c⟩ | ⟨w, hw, a1, a2, a3, a4, e, D', M', i', c⟩
  · exact ⟨(c.k q).1, .inl ⟨a, e, ⟨⟨_, _, i', (c.k q).2⟩, g⟩⟩⟩
  · rw [end_set rL hw] at i'
    refine ⟨(c.k q).1, .inr ⟨w, hw, a1, a2, a3, a4, e, ⟨⟨_, _, i', (c.k q).2⟩, fun u hu => ?_⟩⟩⟩
    rcases setV_mem hu with rfl | hu
    · exact endV_good (g w hw) (.inr ⟨a3, by rw [(cmpV_made a1).2.2]; exact a4⟩)
    · exact g u hu
theorem f38k {K : Nat → Prop} {x : Nat} (hash : List UInt8) (pn made : Int) (hl : hash.length = 32) {L : List Ver} {h : Hp} {n : Nat} (hs : Ixk K h n x L) (hc : L.length ≤ 900000) (hf : Free h n) :
    Wp (callI env (evalW env) 38 [.ptr x 0, .agg (pcells hash pn), .int .i64 made]) h n fun v' h' n' => (∀ j, K j → h' j = h j) ∧
      (((∀ w ∈ L, cmpV w (key hash pn made) = 0 → w.spent = 0) ∧ v' = .int .i64 210 ∧ Ixk K h' n' x L) ∨
      (∃ w ∈ L, cmpV w (key hash pn made) = 0 ∧ w.spent ≠ 0 ∧ v' = .int .i64 0 ∧ Ixk K h' n' x (setV L w (endV w 0 z32)))) := by
  have rL := hs.rL
  obtain ⟨⟨D, M, i, q⟩, g⟩ := hs
  refine wp_mono (f38 x hash pn made hl L D M h n i hc hf) fun v' h' n' hh => ?_
  rcases hh with ⟨a, e, i', c⟩ | ⟨w, hw, a1, a2, e, D', M', i', c⟩
  · exact ⟨(c.k q).1, .inl ⟨a, e, ⟨⟨_, _, i', (c.k q).2⟩, g⟩⟩⟩
  · rw [end_set rL hw] at i'
    refine ⟨(c.k q).1, .inr ⟨w, hw, a1, a2, e, ⟨⟨_, _, i', (c.k q).2⟩, fun u hu => ?_⟩⟩⟩
    rcases setV_mem hu with rfl | hu
    · exact endV_good (g w hw) (.inl rfl)
    · exact g u hu
theorem f39k {K : Nat → Prop} {x : Nat} (z : Int) {L : List Ver} {h : Hp} {n : Nat} (hs : Ixk K h n x L) (hc : L.length ≤ 900000) (hf : Free h n) :
    Wp (callI env (evalW env) 39 [.ptr x 0, .int .i64 z]) h n fun v' h' n' => VL h' n n' v' (L.filter fun v => there v z) ∧ Old h h' n := by
  obtain ⟨⟨D, M, i, q⟩, g⟩ := hs
  exact f39 x z L D M h n i (by omega) hf
/-- Nothing, or a version. -/
def noV : Ver := ⟨List.replicate 32 0, 0, 0, 0, [], false, 0, List.replicate 32 0⟩
theorem noV_ok : noV.Ok := ⟨rfl, rfl⟩
theorem z31n : ty31.i.zero.cells = vcells noV .nils := rfl
theorem f37k {K : Nat → Prop} {x : Nat} (hash : List UInt8) (pn z : Int) (hl : hash.length = 32) {L : List Ver} {h : Hp} {n : Nat} (hs : Ixk K h n x L) (hc : L.length ≤ 900000) (hf : Free h n) :
    Wp (callI env (evalW env) 37 [.ptr x 0, .agg (pcells hash pn), .int .i64 z]) h n fun v' h' n' => Old h h' n ∧ ∃ s', v' = .tup [.agg (vcells ((atV L hash pn z).getD noV) s'), .bool (atV L hash pn z).isSome] ∧ ((atV L hash pn z).getD noV).Ok ∧ Bytes h' s' ((atV L hash pn z).getD noV).script ∧ ∀ j, ownId s' = some j → n ≤ j ∧ j < n' := by
  have rL := hs.rL
  obtain ⟨⟨D, M, i, q⟩, g⟩ := hs
  have ok := i.ok
  refine wp_mono (f37 x hash pn z hl L D M h n i (by omega) hf) fun v' h' n' ⟨o, k, hk, sm, ne, hh⟩ => ⟨o, ?_⟩
  rw [at_eq rL g hk sm ne] at hh
  rcases hh with ⟨e, hv⟩ | ⟨w, s', e, hv, hw, b, hj⟩
  · exact ⟨.nils, by rw [hv, e, z31n]; rfl, by rw [e]; exact noV_ok, by rw [e]; exact .nils, fun j q => by cases q⟩
  · exact ⟨s', by rw [hv, e]; rfl, by rw [e]; exact (ok w hw).1, by rw [e]; exact b, hj⟩
theorem f43k {K : Nat → Prop} {x : Nat} (sv : AVal) (script : List UInt8) (z : Int) {L : List Ver} {h : Hp} {n : Nat} (hs : Ixk K h n x L) (hb : Bytes h sv script) (hsn : ∀ j, ownId sv = some j → j < n) (hc : L.length ≤ 900000) (hf : Free h n) :
    Wp (callI env (evalW env) 43 [.ptr x 0, sv, .int .i64 z]) h n fun v' h' n' => VL h' n n' v' (ofV L script z) ∧ Old h h' n := by
  have rL := hs.rL
  obtain ⟨⟨D, M, i, q⟩, g⟩ := hs
  have ok := i.ok
  refine wp_mono (f43 x sv script z L D M h n i hb hsn (by omega) hf) fun v' h' n' ⟨o, S, k, rS, perm, hk, sm, ne, v⟩ => ⟨?_, o⟩
  rwa [of_eq rL rS perm (fun v hv => (ok v hv).1) g hk sm ne] at v
/- The chapter's examples. -/
def z0 : List UInt8 := List.replicate 32 0
def exv (made value : Int) : Ver := ⟨z0, 0, made, value, [81], false, 0, z0⟩
def b9 : List UInt8 := 9 :: List.replicate 31 0
theorem z31c : ty31.i.zero.cells = z33 ++ [.int .i64 0] ++ z36 := rfl
theorem build31m {s : AVal} {m : Int} (hs : s.cells = [s] ∧ oneCell s = true ∧ isJunk s = false) : build env 31 [(1, .int .i64 m), (3, s)] = M.pure (.agg (vcells (exv m 0) s)) := by
  have e1 : ∀ pl : Nat → Option (Nat × Nat), pl 1 = some (33, 1) → pl 3 = some (35, 1) → fill pl ty31.i.zero.cells [(1, .int .i64 m), (3, s)] = some (vcells (exv m 0) s) := fun pl p1 p3 => by
    rw [z31c, fill_at p1 rfl rfl rfl rfl]
    have e : z33 ++ (AVal.int .i64 m).cells ++ z36 = (z33 ++ [.int .i64 m, .int .i64 0]) ++ [.nils] ++ ([.bool false, .int .i64 0] ++ List.replicate 32 (.int .u8 0)) := rfl
    rw [e, fill_at p3 rfl rfl (by rw [hs.1]; rfl) hs.2.2, hs.1]
    simp only [fill]
    congr 1
  have e2 : build env 31 [(1, .int .i64 m), (3, s)] = (getO "build" (fill ([(0, 33), (33, 1), (34, 1), (35, 1), (36, 1), (37, 1), (38, 32)][·]?) ty31.i.zero.cells [(1, .int .i64 m), (3, s)])).bind fun cs => M.pure (.agg cs) := rfl
  rw [e2, e1 _ rfl rfl]
  rfl
theorem build31v {s : AVal} {m w : Int} (hs : s.cells = [s] ∧ oneCell s = true ∧ isJunk s = false) : build env 31 [(1, .int .i64 m), (3, s), (2, .int .i64 w)] = M.pure (.agg (vcells (exv m w) s)) := by
  have e1 : ∀ pl : Nat → Option (Nat × Nat), pl 1 = some (33, 1) → pl 3 = some (35, 1) → pl 2 = some (34, 1) → fill pl ty31.i.zero.cells [(1, .int .i64 m), (3, s), (2, .int .i64 w)] = some (vcells (exv m w) s) := fun pl p1 p3 p2 => by
    rw [z31c, fill_at p1 rfl rfl rfl rfl]
    have e : z33 ++ (AVal.int .i64 m).cells ++ z36 = (z33 ++ [.int .i64 m, .int .i64 0]) ++ [.nils] ++ ([.bool false, .int .i64 0] ++ List.replicate 32 (.int .u8 0)) := rfl
    rw [e, fill_at p3 rfl rfl (by rw [hs.1]; rfl) hs.2.2, hs.1]
    have e' : (z33 ++ [.int .i64 m, .int .i64 0]) ++ [s] ++ ([.bool false, .int .i64 0] ++ List.replicate 32 (.int .u8 0)) = (z33 ++ [.int .i64 m]) ++ [.int .i64 0] ++ ([s, .bool false, .int .i64 0] ++ List.replicate 32 (.int .u8 0)) := rfl
    rw [e', fill_at p2 rfl rfl rfl rfl]
    simp only [fill]
    congr 1
  have e2 : build env 31 [(1, .int .i64 m), (3, s), (2, .int .i64 w)] = (getO "build" (fill ([(0, 33), (33, 1), (34, 1), (35, 1), (36, 1), (37, 1), (38, 32)][·]?) ty31.i.zero.cells [(1, .int .i64 m), (3, s), (2, .int .i64 w)])).bind fun cs => M.pure (.agg cs) := rfl
  rw [e2, e1 _ rfl rfl rfl]
  rfl
theorem build28z : build env 28 [] = M.pure (.agg (pcells z0 0)) := rfl
theorem build25_9 : build env 25 [(0, .int .u8 9)] = M.pure (.agg (b9.map u8)) := rfl
theorem ex1 : ¬ errP (exv 3 0) [] := by
  rintro (h | ⟨w, hw, _⟩)
  · cases h
  · cases hw
theorem ex2 : putV [] (exv 3 0) = [exv 3 0] := rfl
theorem ex3 : errP (exv 3 0) [exv 3 0] := .inr ⟨_, List.mem_singleton.2 rfl, ordV.refl _⟩
theorem ex4 : ¬ errP (exv 5 7) [exv 3 0] := by
  rintro (h | ⟨w, hw, h⟩)
  · cases h
  · rw [List.mem_singleton.1 hw] at h
    revert h
    decide +kernel
theorem ex5 : putV [exv 3 0] (exv 5 7) = [exv 3 0, exv 5 7] := by kernel_rfl
def exL : List Ver := [endV (exv 3 0) 4 b9, exv 5 7]
theorem ex6 : setV [exv 3 0, exv 5 7] (exv 3 0) (endV (exv 3 0) 4 b9) = exL := by kernel_rfl
theorem ex7 : cmpV (exv 3 0) (key z0 0 3) = 0 := by decide +kernel
theorem ex8 : cmpV (exv 5 7) (key z0 0 3) ≠ 0 := by decide +kernel
theorem ex9 : atV exL z0 0 3 = some (endV (exv 3 0) 4 b9) := by kernel_rfl
theorem ex10 : atV exL z0 0 4 = none := by kernel_rfl
theorem ex11 : atV exL z0 0 5 = some (exv 5 7) := by kernel_rfl
theorem ex12 : cmpV (endV (exv 3 0) 4 b9) (key z0 0 5) ≠ 0 := by decide +kernel
theorem ex14 : cmpV (endV (exv 3 0) 4 b9) (key z0 0 3) = 0 := by decide +kernel
def exM : List Ver := [exv 3 0, exv 5 7]
theorem ex15 : setV exL (endV (exv 3 0) 4 b9) (endV (endV (exv 3 0) 4 b9) 0 z32) = exM := by kernel_rfl
theorem ex16 : ofV exM [81] 9 = exM := by kernel_rfl
end Go.Am.Ytlgebaofkolkoaa
