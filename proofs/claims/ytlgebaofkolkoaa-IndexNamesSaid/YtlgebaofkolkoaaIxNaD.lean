/- The functions that the statement reaches, gone through. -/
import Derived.Test.YtlgebaofkolkoaaIxNaC
set_option linter.unusedSimpArgs false
set_option linter.unusedVariables false
set_option linter.defProp false
set_option maxRecDepth 10000
namespace Go.Am.Ytlgebaofkolkoaa
open Go Go.Am Go.Proofs
theorem loop44 (Q : Post0) (ks : List Kf) (v : AVal) (z : Int) (cnt : Nat) (xs : List AVal) (vs : List Ver) (D : Nat → Prop) (h0 : Hp) (n0 : Nat) (hc : cnt ≤ 1000000) (hv : Rds h0 1 v cnt xs) (hvn : ∀ j, ownId v = some j → j < n0) (hp : Ps h0 D xs vs) (hD : ∀ j, D j → j < n0) (hsl : ∀ v ∈ vs, v.script.length ≤ 1000000)
    (hT : ∀ (h : Hp) (n : Nat) (acc : AVal) (x0 x4 x7 x9 x18 x25 : AVal), BL h n0 n acc (scr z vs) → n0 ≤ n → Free h n → Old h0 h n0 →
      Kont env 44 none Q ks (.exit 0) (x0 :: .int .i64 z :: AVal.junk :: AVal.junk :: x4 :: acc :: AVal.junk :: x7 :: AVal.junk :: x9 :: AVal.junk :: AVal.junk :: AVal.junk :: AVal.junk :: AVal.junk :: v :: .int .i64 (cnt : Nat) :: .int .i64 (cnt : Nat) :: x18 :: AVal.junk :: AVal.junk :: AVal.junk :: AVal.junk :: AVal.junk :: AVal.junk :: x25 :: AVal.junk :: AVal.junk :: AVal.junk :: AVal.junk :: AVal.junk :: AVal.junk :: AVal.junk :: AVal.junk :: AVal.junk :: AVal.junk :: AVal.junk :: []) h n) :
    ∀ (m i : Nat) (h : Hp) (n : Nat) (acc : AVal) (x0 x4 x7 x9 x18 x25 : AVal), i + m = cnt → BL h n0 n acc (scr z (vs.take i)) → n0 ≤ n → Free h n → Old h0 h n0 →
      Run env 44 none Q (.loop lp44_0) ks (x0 :: .int .i64 z :: AVal.junk :: AVal.junk :: x4 :: acc :: AVal.junk :: x7 :: AVal.junk :: x9 :: AVal.junk :: AVal.junk :: AVal.junk :: AVal.junk :: AVal.junk :: v :: .int .i64 (cnt : Nat) :: .int .i64 (i : Nat) :: x18 :: AVal.junk :: AVal.junk :: AVal.junk :: AVal.junk :: AVal.junk :: AVal.junk :: x25 :: AVal.junk :: AVal.junk :: AVal.junk :: AVal.junk :: AVal.junk :: AVal.junk :: AVal.junk :: AVal.junk :: AVal.junk :: AVal.junk :: AVal.junk :: []) h n := by
  have hcl : cnt = vs.length := by have := hv.length; have := hp.len; omega
  intro m
  induction m with
  | zero =>
    intro i h n acc x0 x4 x7 x9 x18 x25 hm ha hn hf ho
    have : i = cnt := by omega
    subst this
    rw [run_loop]
    have hcc : ¬ (((i : Nat) : Int) < ((i : Nat) : Int)) := by omega
    simp only [lp44_0, loopsOf, Try.f44, Option.getD_some, core1, fgr, execOp, opd, putT, put, nth, forgetL, bor, binInt, shiftB, intOp, List.nil_append, List.append_nil, decide_true, decide_false, List.getD_cons_zero, hcc]
    rw [hcl, List.take_length] at ha
    exact hT h n acc _ _ _ _ _ _ ha hn hf ho
  | succ m ih =>
    intro i h n acc x0 x4 x7 x9 x18 x25 hm ha hn hf ho
    rw [run_loop]
    have hil : i < cnt := by omega
    have hcc : (((i : Nat) : Int) < ((cnt : Nat) : Int)) := by omega
    have hv' := hv.keep (h' := h) (fun j hj => ho j (hvn j hj))
    have hp' := hp.mono (D' := D) (fun _ q => q) (fun j hj => ho j (hD j hj))
    obtain ⟨id, sv, hx, a, d1, d2⟩ := hp'.get (j := i) (by omega)
    have hidx := hv'.idx (E := env) u95 z128 (kk := .i64) (z := ((i : Nat) : Int)) (j := i) rfl hil (h' := h) (n' := n)
    have hld := hv'.load (E := env) ti128 rfl (k := i * 1) (n := n) (by rw [Nat.mul_one]; exact hx)
    have w1 : IntKind.i64.wrap (((i : Nat) : Int) + 1) = ((i + 1 : Nat) : Int) := by rw [w64 (by omega) (by omega)]; omega
    have hss := scr_s (vs := vs) (i := i) (by omega) z
    have hwv := hsl _ (List.getElem_mem (show i < vs.length by omega))
    generalize vs[i]'(by omega) = w at *
    have atn : AtN h n id sv w := ⟨a, by have := hD _ d1; omega, fun q hq => by have := hD _ (d2 q hq); omega⟩
    simp only [lp44_0, loopsOf, Try.f44, Option.getD_some, core1, fgr, execOp, opd, putT, put, nth, forgetL, bor, binInt, shiftB, intOp, List.nil_append, List.append_nil, decide_true, List.getD_cons_zero, hcc]
    rw [opv_rd hidx]
    simp only [core1, execOp, opd, putT, put, nth]
    rw [opv_rd hld]
    simp only [core1, fgr, execOp, opd, putT, put, nth, forgetL, nilCheck]
    rw [opv_rd (row_all a.row a.ok)]
    simp only [core1, hkr, execOp, opd, opds, putT, put, nth, doCall, callV_func, List.nil_append, List.append_nil]
    refine opv_callf hf (f82 w sv a.ok z h n hf) fun v1 h1 n1 hn1 f1 ⟨e1, o1⟩ => ?_
    subst e1
    have ho1 : Old h0 h1 n0 := fun q hq => (o1 q (by omega)).trans (ho q hq)
    have ha1 := ha.old (Nat.le_refl _) o1
    have at1 := atn.old hn1 o1
    cases hq : there w z with
    | false =>
      rw [hq] at hss
      simp only [core1, fgr, execOp, opd, ofValue, putT, put, nth, forgetL, bor, binInt, shiftB, intOp, wrapI, decide_true, w1]
      obtain ⟨cells, c1, c2, c3⟩ := ha1
      exact ih (i + 1) h1 n1 acc _ _ _ _ _ _ (by omega) ⟨cells, by rw [hss]; exact c1, by rw [hss]; exact c2.mono (fun j q => ⟨q.1, by omega, q.2.2⟩) (fun j q => rfl), fun j q => by have := c3 j q; omega⟩ (by omega) f1 ho1
    | true =>
      rw [hq] at hss
      obtain ⟨cells, c1, c2, c3⟩ := ha1
      simp only [core1, tyr, fgr, execOp, opd, putT, put, nth, forgetL, und, sizeOf, nilCheck, getO, moved, fieldAddr, List.getElem?_cons_succ, List.getElem?_cons_zero, Nat.zero_add]
      rw [opv_rd (row_script at1.row at1.ok)]
      simp only [core1, hkr, execOp, opd, opds, putT, put, nth, doCall, callV_func, List.nil_append, List.append_nil]
      refine opv_callf f1 (f90 sv w.script h1 n1 at1.s hwv f1) fun v2 h2 n2 hn2 f2 ⟨b2, i2, o2⟩ => ?_
      have c1' := c1.keep (h' := h2) fun j q => o2 j (by have := c3 j q; omega)
      simp only [core1, execOp, opd, ops2, putT, put, nth, bs81 b2.kind]
      refine opv_row ti29 f2 (f := fun id => AVal.sl id 0 1 (some 1) 1) fun H3 r3 o3 f3 => ?_
      have c1'' := c1'.keep (h' := H3) fun j q => o3 j (by have := c3 j q; omega)
      have hlen : (scr z (vs.take i)).length ≤ 1000000 := by
        have h1 := scr_le z (vs.take i)
        have h2 : (vs.take i).length ≤ vs.length := by rw [List.length_take]; omega
        omega
      have k2 := b2.kind
      simp only [core1, execOp, opd, opds, putT, put, nth, doCall, builtin, two2]
      refine opv_lst_append (i := ty29.i) (e := 29) c1'' (row_rds (cnt := 1) r3 rfl) u81 u81 ti29 (by simp [k2.2.1]) (by decide) (by show 2 * (_ + 1) * 24 ≤ _; omega) (by omega) f3 ?_
      intro acc' h4 n4 hn4 f4 l4 i4 o4
      simp only [core1, fgr, execOp, opd, ofValue, putT, put, nth, forgetL, bor, binInt, shiftB, intOp, wrapI, decide_true, w1]
      have an2 : ∀ j, n1 ≤ j → ownId acc ≠ some j := fun j hj q => by have := c3 j q; omega
      have i4' : ∀ j, ownId acc' = some j → n0 ≤ j := fun j q => by
        rcases i4 with w | ⟨w, _⟩
        · rw [w] at q; exact (c3 j q).1
        · rw [w] at q; injection q with q; omega
      have hne : ∀ j, j < n2 + 1 → ownId acc ≠ some j → ownId acc' ≠ some j := fun j hj hn q => by
        rcases i4 with w | ⟨w, _⟩
        · rw [w] at q; exact hn q
        · rw [w] at q; injection q with q; omega
      have kp1 : ∀ j, j < n1 → ownId acc ≠ some j → h4 j = h1 j := fun j hj hn => by rw [o4 j (by omega) hn, o3 j (by omega), o2 j hj]
      have bs4 := (c2.mono (h' := h4) (D' := fun j => n0 ≤ j ∧ j < n4 ∧ ownId acc' ≠ some j) (fun j q => ⟨q.1, by omega, hne j (by omega) q.2.2⟩) (fun j q => kp1 j (by omega) q.2.2)).snoc (b2.keep (h' := h4) fun j q => by rw [o4 j (by have := i2 j q; omega) (an2 j (i2 j q).1), o3 j (by have := i2 j q; omega)]) (fun j q => ⟨by have := i2 j q; omega, by have := i2 j q; omega, hne j (by have := i2 j q; omega) (an2 j (i2 j q).1)⟩)
      refine ih (i + 1) h4 n4 acc' _ _ _ _ _ _ (by omega) ⟨_, by rw [hss, if_pos rfl, List.length_append]; exact l4, by rw [hss, if_pos rfl]; exact bs4, fun j q => ⟨i4' j q, l4.live f4 q⟩⟩ (by omega) f4 fun j hj => ?_
      rw [kp1 j (by omega) (fun q => by have := c3 j q; omega)]
      exact ho1 j hj
theorem f44 (x : Nat) (z : Int) (L : List Ver) (D M : Nat → Prop) (h : Hp) (n : Nat) (hs : Ix h n D M x L) (hc : L.length ≤ 1000000) (hf : Free h n) :
    Wp (callI env (evalW env) 44 [.ptr x 0, .int .i64 z]) h n fun v' h' n' => ∃ S, Rises true S ∧ L.Perm S ∧ BL h' n n' v' (cmpL (scr z S)) ∧ Old h h' n := by
  obtain ⟨⟨S, s0, rS, perm⟩, rL, ok⟩ := hs
  obtain ⟨vl, vs, xl, xs, iv, mx, ml, ms, mn⟩ := s0
  have hSl : S.length = L.length := perm.length_eq.symm
  refine wp_callI ff44 fi44 ?_
  simp only [fu44, Try.f44, Option.getD_some, List.replicate, core1, fgr, hkr, execOp, opd, opds, ofValue, putT, put, nth, forgetL, doCall, callV_func, ended, resultOf, oneOrTup, List.cons_append, List.nil_append, List.append_nil, List.length_cons, List.length_nil, Nat.reduceAdd, Nat.reduceSub, Nat.zero_add, wp_pure]
  refine opv_same (f73 x _ true h n iv.row rfl) ?_
  simp only [core1, tyr, fgr, execOp, opd, putT, put, nth, forgetL, und, sizeOf, nilCheck, getO, moved, fieldAddr, List.getElem?_cons_succ, List.getElem?_cons_zero, Bool.not_true, Nat.zero_add, Nat.add_zero]
  rw [opv_rd (iv.row.one (off := 3) rfl ti95 rfl)]
  simp only [core1, fgr, execOp, opd, opds, ofValue, putT, put, nth, forgetL, doCall, builtin, one1, iv.s.rds.bLen u95]
  refine loop44 _ _ vs z S.length xs S D h n (by omega) iv.s.rds (fun j q => (mn j (ms j q)).1) iv.sp iv.dn (fun v hv => (ok v (perm.mem_iff.2 hv)).2) ?_ S.length 0 h n .nils _ _ _ _ _ _ (by omega) ⟨[], .nil, Bs.nil _ _, fun j q => by cases q⟩ (Nat.le_refl _) hf (Old.refl _ _)
  intro h1 n1 acc x0 x4 x7 x9 x18 x25 hb hn hf1 ho
  simp only [core1, hkr, execOp, opd, opds, putT, put, nth, doCall, callV_func, List.nil_append, List.append_nil]
  have hle := scr_le z S
  refine opv_callf hf1 (f91 acc (scr z S) n h1 n1 hb (by omega) hf1) fun v2 h2 n2 hn2 f2 ⟨e2, b2, o2⟩ => ?_
  subst e2
  simp only [core1, fgr, execOp, opd, putT, put, nth, forgetL, true_and]
  refine ⟨S, rS, perm, b2, fun j hj => ?_⟩
  obtain ⟨_, _, _, c3⟩ := hb
  rw [o2 j (fun q => by have := c3 j q; omega), ho j hj]
/- An outpoint's versions: History. -/
noncomputable def L49 (tm : List AVal) : ALoop := { state := .ready, pending := none, fn := 49, tmps := tm, params := [10], assign := ra49_0, body := rb49_0 }
def part_ (L : List Ver) (p k : Nat) : List Ver := (L.take k).drop p
theorem part_0 (L : List Ver) (p : Nat) : part_ L p p = [] := by
  unfold part_
  exact List.drop_eq_nil_of_le (by rw [List.length_take]; omega)
theorem part_s {L : List Ver} {p k : Nat} (hp : p ≤ k) (hk : k < L.length) : part_ L p (k + 1) = part_ L p k ++ [L[k]] := by
  unfold part_
  rw [take_snoc hk, List.drop_append_of_le_length (by rw [List.length_take]; omega)]
theorem part_le (L : List Ver) (p k : Nat) : (part_ L p k).length ≤ L.length := by
  unfold part_
  rw [List.length_drop, List.length_take]; omega
structure P49 (H7 : Hp) (n : Nat) (L : List Ver) (hash : List UInt8) (pn : Int) (lo : ALoop) (nS k : Nat) (h1 : Hp) (n1 : Nat) : Prop where
  fr : Free h1 n1
  n7 : n + 1 + 1 + 1 + 1 + 1 ≤ nS
  ns : nS ≤ n1
  kp : ∀ j, j < n + 1 + 1 + 1 + 1 + 1 → j ≠ n + 1 → j ≠ n + 1 + 1 + 1 + 1 → h1 j = H7 j
  lp : h1 (n + 1 + 1 + 1 + 1) = some (.loop lo)
  cl : ∃ acc cells, h1 (n + 1) = some (.row (.l [acc]) 43) ∧ Lst h1 31 70 acc (part_ L (pos false L (key hash pn 0)) k).length cells ∧ Vs h1 (fun j => nS ≤ j ∧ j < n1 ∧ ownId acc ≠ some j) cells (part_ L (pos false L (key hash pn 0)) k) ∧ ∀ j, ownId acc = some j → nS ≤ j
  sm : ∀ i (hi : i < L.length), pos false L (key hash pn 0) ≤ i → i < k → same hash pn L[i] = true
set_option maxHeartbeats 4000000 in
theorem f49 (x : Nat) (hash : List UInt8) (pn : Int) (hl : hash.length = 32) (L : List Ver) (D M : Nat → Prop) (h : Hp) (n : Nat) (hs : Ix h n D M x L) (hc : L.length ≤ 1000000) (hf : Free h n) :
    Wp (callI env (evalW env) 49 [.ptr x 0, .agg (pcells hash pn)]) h n fun v' h' n' => Old h h' n ∧ ∃ k, pos false L (key hash pn 0) ≤ k ∧ (∀ i (hi : i < L.length), pos false L (key hash pn 0) ≤ i → i < k → same hash pn L[i] = true) ∧ (∀ hk : k < L.length, same hash pn L[k] = false) ∧ VL h' n n' v' (part_ L (pos false L (key hash pn 0)) k) := by
  obtain ⟨⟨S, s0, rS, perm⟩, rL, ok⟩ := hs
  obtain ⟨vl, vs, xl, xs, iv, mx, ml, ms, mn⟩ := s0
  refine wp_callI ff49 fi49 ?_
  simp only [fu49, Try.f49, Option.getD_some, List.replicate, core1, execOp, opd, nth, ended, resultOf, oneOrTup, List.cons_append, List.nil_append, List.length_cons, List.length_nil, Nat.reduceAdd, Nat.reduceSub, Nat.zero_add, wp_pure]
  refine opv_box (v := .agg (pcells hash pn)) ti28 rfl hf fun H1 r1 o1 f1 => ?_
  replace r1 : Row H1 n (pcells hash pn) := r1
  simp only [core1, fgr, execOp, opd, ofValue, putT, put, forgetL]
  rw [opv_alloc ti43 rfl]
  obtain ⟨H2, hH2⟩ : ∃ H2, H2 = upd H1 (n + 1) (some (Blk.row (Cont.l [AVal.nils]) 43)) := ⟨_, rfl⟩
  show Ops env 49 none _ _ _ _ _ (upd H1 (n + 1) (some (Blk.row (Cont.l [AVal.nils]) 43))) _
  rw [← hH2]
  have f2 : Free H2 (n + 1 + 1) := by rw [hH2]; exact f1.new
  have o2 : ∀ j, j ≠ n + 1 → H2 j = H1 j := fun j hj => by rw [hH2, upd_ne _ _ hj]
  have r2 : H2 (n + 1) = some (Blk.row (Cont.l [AVal.nils]) 43) := by rw [hH2, upd_same]
  clear hH2
  have r1' : Row H2 n (pcells hash pn) := r1.keep (o2 n (by omega))
  simp only [core1, fgr, execOp, opd, putT, put, nth, forgetL]
  rw [opv_rd (show Rd (load env 28 (.ptr n 0)) _ _ [n] (.agg (pcells hash pn)) from Row.whole r1' ti28 rfl (pcells_len hl))]
  simp only [core1, hkr, execOp, opd, opds, putT, put, nth, doCall, callV_func, List.nil_append, List.append_nil]
  refine opv_same (f81 x hash pn _ _) ?_
  simp only [core1, fgr, putT, put, forgetL]
  refine run_range (g := 106) (first := []) (cap := [.ptr (n + 1 + 1) 0, .ptr (n + 1 + 1 + 1) 0]) rfl rfl ?_
  let TM : List AVal := (.ptr x 0 :: .agg (pcells hash pn) :: AVal.junk :: .ptr n 0 :: .nils :: .ptr (n + 1) 0 :: undef :: AVal.junk :: AVal.junk :: .fn (.func 106) [] [.ptr (n + 1 + 1) 0, .ptr (n + 1 + 1 + 1) 0] :: undef :: AVal.junk :: AVal.junk :: AVal.junk :: AVal.junk :: AVal.junk :: AVal.junk :: AVal.junk :: AVal.junk :: [])
  obtain ⟨H6, hH6⟩ : ∃ H6, H6 = upd (upd (upd H2 (n + 1 + 1) (some (Blk.row (Cont.l [AVal.ptr x 0]) 56))) (n + 1 + 1 + 1) (some (Blk.row (Cont.l (pcells hash pn)) 28))) (n + 1 + 1 + 1 + 1) (some (Blk.loop (L49 TM))) := ⟨_, rfl⟩
  show Wp (callF env (evalW env) 106 [AVal.fn (Fn.yield (n + 1 + 1 + 1 + 1)) [] [], AVal.ptr (n + 1 + 1) 0, AVal.ptr (n + 1 + 1 + 1) 0]) (upd (upd (upd H2 (n + 1 + 1) (some (Blk.row (Cont.l [AVal.ptr x 0]) 56))) (n + 1 + 1 + 1) (some (Blk.row (Cont.l (pcells hash pn)) 28))) (n + 1 + 1 + 1 + 1) (some (Blk.loop (L49 TM)))) _ _
  rw [hk106, ← hH6]
  have f6 : Free H6 (n + 1 + 1 + 1 + 1 + 1) := by rw [hH6]; exact f2.new.new.new
  have old6 : Old h H6 n := fun j hj => by rw [hH6, upd_ne _ _ (by omega), upd_ne _ _ (by omega), upd_ne _ _ (by omega), o2 j (by omega), o1 j (by omega)]
  have g3 : H6 (n + 1) = some (Blk.row (Cont.l [AVal.nils]) 43) := by rw [hH6, upd_ne _ _ (by omega), upd_ne _ _ (by omega), upd_ne _ _ (by omega)]; exact r2
  have g4 : Row H6 (n + 1 + 1) [.ptr x 0] := by rw [hH6]; exact ((Row.new _ _ _ _).upd (by omega)).upd (by omega)
  have g5 : Row H6 (n + 1 + 1 + 1) (pcells hash pn) := by rw [hH6]; exact (Row.new _ _ _ _).upd (by omega)
  have g6 : H6 (n + 1 + 1 + 1 + 1) = some (.loop (L49 TM)) := by rw [hH6, upd_same]
  clear hH6
  have iv6 : IxV H6 (n + 1 + 1 + 1 + 1 + 1) D x vl vs xl xs L S :=
    ⟨iv.row.keep (old6 x iv.xn), iv.l.keep (fun j q => old6 j (mn j (ml j q)).1), iv.lp.mono (fun j q => q) (fun j q => old6 j (iv.dn j q)), iv.s.keep (fun j q => old6 j (mn j (ms j q)).1), iv.sp.mono (fun j q => q) (fun j q => old6 j (iv.dn j q)), by have := iv.xn; omega, fun j q => by have := iv.dn j q; omega, iv.xd, iv.vlx, iv.vsx⟩
  have lt : ∀ (j : Nat), j < n → ∀ (h1 : Hp), (∀ j, j < n + 1 + 1 + 1 + 1 + 1 → j ≠ n + 1 → j ≠ n + 1 + 1 + 1 + 1 → h1 j = H6 j) → h1 j = H6 j := fun j hj h1 hk => hk j (by omega) (by omega) (by omega)
  refine wp_mono ((f106 (.fn (.yield (n + 1 + 1 + 1 + 1)) [] []) (n + 1 + 1) (n + 1 + 1 + 1) x hash pn hl L S D (P49 H6 n L hash pn (L49 TM)) (fun _ _ _ => False) vl vs xl xs H6 (n + 1 + 1 + 1 + 1 + 1) iv6 (fun j q => by have := (mn j (ml j q)).1; omega) rL hc ⟨rfl, rfl, rfl⟩ g4 g5 (by omega) (by omega) f6 ?_ ?_ ?_ (fun _ _ _ _ _ _ _ q => q) ?_).free f6) ?_
  · intro nS k h1 n1 p
    exact ⟨iv6.l.rds.keep (fun j q => lt j (mn j (ml j q)).1 h1 p.kp), iv6.lp.mono (fun j q => q) (fun j q => lt j (iv.dn j q) h1 p.kp), p.fr⟩
  · intro h' nS hn' hf' ho'
    exact ⟨hf', by omega, Nat.le_refl _, fun j hj _ _ => ho' j hj, (ho' _ (by omega)).trans g6, ⟨.nils, [], (ho' _ (by omega)).trans g3, by rw [part_0]; exact .nil, by rw [part_0]; exact Vs.nil _ _, fun j q => by cases q⟩, fun i hi h1 h2 => by omega⟩
  · intro nS k h1 n1 i b hi hns p
    obtain ⟨acc, cells, c1, c2, c3, c4⟩ := p.cl
    have hn7 := p.n7
    exact ⟨p.fr.upd (by have := p.ns; omega), p.n7, p.ns, fun j hj h1' h2' => by rw [upd_ne _ _ (by omega)]; exact p.kp j hj h1' h2', by rw [upd_ne _ _ (by omega)]; exact p.lp, ⟨acc, cells, by rw [upd_ne _ _ (by omega)]; exact c1, c2.keep fun j q => upd_ne _ _ (by have := c4 j q; omega), c3.mono (fun j q => q) (fun j q => upd_ne _ _ (by omega)), c4⟩, p.sm⟩
  · intro nS k hk id sv h1 n1 hnS hpk p a d1 d2 hsm
    have hidn := iv.dn id d1
    refine wp_yield p.lp rfl rfl ?_
    simp only [ra49_0, List.getD_cons_zero, putAll, List.zip_cons_cons, List.zip_nil_left, L49, TM, rangesOf, Try.f49, Option.getD_some, core1, fgr, execOp, opd, putT, put, nth, forgetL, List.nil_append, List.append_nil, true_and]
    refine ⟨_, p.lp, rfl, ?_⟩
    obtain ⟨h2, hh2⟩ : ∃ h2, h2 = upd h1 (n + 1 + 1 + 1 + 1) (some (Blk.loop { L49 TM with state := .busy })) := ⟨_, rfl⟩
    have ho2 : ∀ j, j ≠ n + 1 + 1 + 1 + 1 → h2 j = h1 j := fun j hj => by rw [hh2, upd_ne _ _ hj]
    have hlo2 : h2 (n + 1 + 1 + 1 + 1) = some (.loop { L49 TM with state := .busy }) := by rw [hh2, upd_same]
    have hns := p.ns
    have h77 := p.n7
    have hf2 : Free h2 n1 := by rw [hh2]; exact p.fr.upd (by omega)
    show Run env 49 _ _ _ _ _ (upd h1 (n + 1 + 1 + 1 + 1) (some (Blk.loop { L49 TM with state := .busy }))) n1
    rw [← hh2]
    clear hh2
    have a2 : At h2 id sv L[k] := a.keep (ho2 id (by omega)) (fun j q => ho2 j (by have := iv.dn j (d2 j q); omega))
    obtain ⟨acc, cells, q1, q2, q3, q4⟩ := p.cl
    have sm' : ∀ i (hi : i < L.length), pos false L (key hash pn 0) ≤ i → i < k + 1 → same hash pn L[i] = true := fun i hi h1' h2' => by
      by_cases q : i = k
      · subst q; exact hsm
      · exact p.sm i hi h1' (by omega)
    have cell : Row h2 (n + 1) [acc] := ⟨_, (ho2 _ (by omega)).trans q1⟩
    have q2' := q2.keep (h' := h2) fun j q => ho2 j (by have := q4 j q; omega)
    simp only [rb49_0, List.getD_cons_zero, rangesOf, Try.f49, Option.getD_some, core1, List.nil_append, List.append_nil]
    refine run_draw.2 ⟨rfl, ?_⟩
    simp only [fe_cons, execOp, opd, nth]
    rw [fev_rd (cell.one (off := 0) rfl ti43 rfl)]
    simp only [fe_cons, fev_pure, execOp, opd, putT, put, nth, nilCheck, Nat.reduceAdd, Nat.zero_add]
    rw [fev_rd (row_all a2.row a2.ok)]
    simp only [fe_cons, hkr, execOp, opd, opds, putT, put, nth, doCall, callV_func, List.nil_append, List.append_nil, Nat.reduceAdd]
    have fo2 : Free (only (fun j => decide (ownId sv = some j)) h2) n1 := hf2.only
    refine fev_in (fun j => decide (ownId sv = some j)) hf2 (f77 L[k] sv a2.ok (only (fun j => decide (ownId sv = some j)) h2) n1 (a2.s.keep fun j q => only_in (decide_eq_true q)) (fun j q => by have := iv.dn j (d2 j q); omega) (ok _ (List.getElem_mem hk)).2 fo2) fun v9 h9 n9 r9 w9 hr9 hn9 f9 ⟨s', e9, b9, i9, o9⟩ hin hout hr hw => ?_
    subst e9
    have old9 : Old h2 h9 n1 := fun j hj => by
      by_cases q : ownId sv = some j
      · rw [hin j (.inl (decide_eq_true q)), o9 j hj, only_in (decide_eq_true q)]
      · exact hout j hj (decide_eq_false q)
    have b9' : Bytes h9 s' L[k].script := b9.keep (fun j q => hin j (.inr (i9 j q).1))
    simp only [fe_cons, execOp, opd, ops2, putT, put, nth, Nat.reduceAdd, bs43 (vcells_len a2.ok.h a2.ok.b)]
    refine fev_row' ti31 f9 fun H10 r10 o10 f10 => ?_
    simp only [fe_cons, execOp, opd, opds, putT, put, nth, doCall, builtin, two2, Nat.reduceAdd]
    have old10 : Old h2 H10 n1 := fun j hj => by rw [o10 j (by omega), old9 j hj]
    have accl : ∀ j, ownId acc = some j → j < n1 := fun j q => q2.live p.fr q
    have q2'' := q2'.keep (h' := H10) fun j q => old10 j (accl j q)
    have tl := part_le L (pos false L (key hash pn 0)) k
    refine fev_any f10 (wp_lst_append (i := ty31.i) (e := 31) (Q1 := fun v' h' n' => n9 + 1 ≤ n' ∧ Free h' n' ∧ Lst h' 31 70 v' ((part_ L (pos false L (key hash pn 0)) k).length + 1) (cells ++ vcells L[k] s') ∧ (ownId v' = ownId acc ∨ ownId v' = some (n9 + 1) ∧ n9 + 1 < n') ∧ ∀ j, j < n9 + 1 → ownId acc ≠ some j → h' j = H10 j) q2'' (row_rds (cnt := 1) r10 (by rw [vcells_len a2.ok.h a2.ok.b]; rfl)) u43 u43 ti31 (vcells_cell b9.kind.2.1) (by decide) (by show 2 * (_ + 1) * 128 ≤ _; omega) (by omega) f10 (fun v' h' n' a b c d e => ⟨a, b, c, d, e⟩)) fun v11 h11 n11 r11 w11 hn11 f11 ⟨_, _, l11, i11, o11⟩ => ?_
    have o111 : ∀ j, j < n1 → ownId acc ≠ some j → j ≠ n + 1 + 1 + 1 + 1 → h11 j = h1 j := fun j a b c => by rw [o11 j (by omega) b, old10 j a, ho2 j c]
    have accne : ∀ j, j < nS → ownId acc ≠ some j := fun j hj q => by have := q4 j q; omega
    have c11 : h11 (n + 1) = some (Blk.row (Cont.l [acc]) 43) := (o111 _ (by omega) (accne _ (by omega)) (by omega)).trans q1
    have l11n : ∀ j, j < n9 + 1 → ownId acc ≠ some j → ownId v11 ≠ some j := fun j hj hn q => by
      rcases i11 with w | ⟨w, _⟩
      · rw [w] at q; exact hn q
      · rw [w] at q; injection q with q; omega
    have nw : n + 1 ∉ w9 := fun q => by have := iv.dn _ (d2 _ (of_decide_eq_true (hw _ q))); omega
    have nr : n + 1 ∉ r9 := fun q => by have := iv.dn _ (d2 _ (of_decide_eq_true (hr _ q))); omega
    have v11k := l11.rds.kind
    have v11n : ∀ j, ownId v11 = some j → nS ≤ j := fun j q => by
      rcases i11 with w | ⟨w, _⟩
      · rw [w] at q; exact q4 j q
      · rw [w] at q; injection q with q; omega
    simp only [fe_cons, execOp, opd, putT, put, nth, Nat.reduceAdd]
    refine fev_wr (Row.write (v := v11) c11 ti43 (by rw [v11k.1]; rfl) (by show 0 + 1 ≤ 1; omega) (by rw [v11k.1]; simp [v11k.2.1])) ?_
    rw [v11k.1, show splice [acc] 0 [v11] = [v11] from rfl]
    simp only [fe_nil, core1, fgr, putT, forgetL, Nat.reduceAdd]
    have hlo11 : upd h11 (n + 1) (some (Blk.row (Cont.l [v11]) 43)) (n + 1 + 1 + 1 + 1) = some (.loop { L49 TM with state := .busy }) := by
      rw [upd_ne _ _ (by omega), o11 _ (by omega) (accne _ (by omega)), old10 _ (by omega)]
      exact hlo2
    refine ⟨(by (try simp (disch := first | assumption | omega) only [fine, List.all_cons, List.all_nil, clash_pl, clash_pr, clash_rr, Bool.not_false, Bool.true_or, Bool.and_true, Bool.true_and, clash_rw, clash_nw, clash_xn, clash_xs]); repeat' (first | rfl | exact (Bool.or_eq_true _ _).mpr (.inr rfl) | refine (Bool.and_eq_true _ _).mpr ⟨?_, ?_⟩)), _, hlo11, .inl ⟨.inl rfl, ⟨(f11.upd (by omega)).upd (by omega), h77, by omega, fun j hj h1' h2' => ?_, upd_same _ _ _, ⟨v11, cells ++ vcells L[k] s', by rw [upd_ne _ _ (by omega), upd_same], ?_, ?_, v11n⟩, sm'⟩⟩, fun j hj hjn => ?_, ?_⟩
    · rw [upd_ne _ _ h2', upd_ne _ _ h1', o111 j (by omega) (accne j (by omega)) h2']; exact p.kp j hj h1' h2'
    · rw [part_s hpk hk, List.length_append]
      exact l11.keep (fun j q => by rw [upd_ne _ _ (by have := v11n j q; omega), upd_ne _ _ (by have := v11n j q; omega)])
    · rw [part_s hpk hk]
      have ne2 : ∀ j, nS ≤ j → ∀ (H : Hp) b b2, upd (upd H (n + 1) b) (n + 1 + 1 + 1 + 1) b2 j = H j := fun j hj H b b2 => by rw [upd_ne _ _ (by omega), upd_ne _ _ (by omega)]
      refine (q3.mono (fun j q => ⟨q.1, by omega, l11n j (by omega) q.2.2⟩) (fun j q => by rw [ne2 j q.1, o111 j q.2.1 q.2.2 (by omega)])).snoc (b9'.keep fun j q => ?_) a2.ok (fun j q => ⟨by have := i9 j q; omega, by have := i9 j q; omega, l11n j (by have := i9 j q; omega) (fun w => by have := accl j w; have := i9 j q; omega)⟩)
      rw [ne2 j (by have := i9 j q; omega), o11 j (by have := i9 j q; omega) (fun w => by have := accl j w; have := i9 j q; omega), o10 j (by have := i9 j q; omega)]
    · rw [upd_ne _ _ (by omega), upd_ne _ _ (by omega), o111 j (by omega) (accne j hjn) (by omega)]
    · rw [upd_ne _ _ (by omega), upd_ne _ _ (by omega), o111 _ (by omega) (accne _ (by omega)) (by omega)]
  · rintro v5 h5 n5 ⟨⟨e5, nS, hnS, hh⟩, hn5, f5⟩
    rcases hh with ⟨k, hk1, p, hk3⟩ | hr
    · refine ⟨_, p.lp, (fun q => by cases q), .normal, rfl, ?_⟩
      obtain ⟨acc, cells, c1, c2, c3, c4⟩ := p.cl
      have hns := p.ns
      have h7 := p.n7
      simp only [core1, execOp, opd, nth]
      have hrow : Row (upd h5 (n + 1 + 1 + 1 + 1) (some (.loop { L49 TM with state := .exhausted }))) (n + 1) [acc] := ⟨_, (upd_ne _ _ (by omega)).trans c1⟩
      rw [opv_rd (hrow.one (off := 0) rfl ti43 rfl)]
      simp only [core1, fgr, execOp, opd, putT, put, nth, forgetL, true_and]
      refine ⟨fun j hj => ?_, k, hk1, p.sm, hk3, cells, c2.keep (fun j q => upd_ne _ _ (by have := c4 j q; omega)), c3.mono (fun j q => ⟨by omega, q.2.1, q.2.2⟩) (fun j q => upd_ne _ _ (by omega)), fun j q => ⟨by have := c4 j q; omega, c2.live p.fr q⟩⟩
      rw [upd_ne _ _ (by omega), lt j hj h5 p.kp, old6 j hj]
    · exact hr.elim
/-- The versions of an outpoint. -/
def hisV (L : List Ver) (hash : List UInt8) (pn : Int) : List Ver := L.filter (same hash pn)
theorem f49k {K : Nat → Prop} {x : Nat} (hash : List UInt8) (pn : Int) (hl : hash.length = 32) {L : List Ver} {h : Hp} {n : Nat} (hs : Ixk K h n x L) (hc : L.length ≤ 900000) (hf : Free h n) :
    Wp (callI env (evalW env) 49 [.ptr x 0, .agg (pcells hash pn)]) h n fun v' h' n' => VL h' n n' v' (hisV L hash pn) ∧ Old h h' n := by
  have rL := hs.rL
  obtain ⟨⟨D, M, i, q⟩, g⟩ := hs
  refine wp_mono (f49 x hash pn hl L D M h n i (by omega) hf) fun v' h' n' ⟨o, k, hk, sm, ne, v⟩ => ⟨?_, o⟩
  have e := at_cut rL g hk sm ne (fun _ => true)
  rw [List.filter_eq_self.2 fun _ _ => rfl] at e
  have e2 : part_ L (pos false L (key hash pn 0)) k = hisV L hash pn := by
    unfold part_ hisV
    rw [e]
    congr 1
    funext v
    rw [Bool.and_true]
  rwa [e2] at v
/-- No index: nothing, or one that was not made. -/
structure NoIx (h : Hp) (n : Nat) (N : AVal) : Prop where
  k : N = .nilp ∨ ∃ x, N = .ptr x 0
  f : ∀ h' n', Old h h' n → Wp (callI env (evalW env) 73 [N]) h' n' fun v a b => v = .bool true ∧ a = h' ∧ b = n'
theorem noIx_nil (h : Hp) (n : Nat) : NoIx h n .nilp := ⟨.inl rfl, fun h' n' _ => f73n h' n'⟩
theorem noIx_zero {h : Hp} {n x : Nat} {cs : List AVal} (hr : Row h x cs) (hc : cs[0]? = some (.bool false)) (hx : x < n) : NoIx h n (.ptr x 0) := ⟨.inr ⟨x, rfl⟩, fun h' n' ho => f73 x cs false h' n' (hr.keep (ho x hx)) hc⟩
theorem NoIx.old {h h' : Hp} {n n' : Nat} {N : AVal} (q : NoIx h n N) (hn : n ≤ n') (ho : Old h h' n) : NoIx h' n' N := ⟨q.k, fun h2 n2 o => q.f h2 n2 fun j hj => by rw [o j (by omega), ho j hj]⟩
theorem NoIx.kind {h : Hp} {n : Nat} {N : AVal} (q : NoIx h n N) : N.cells = [N] ∧ oneCell N = true ∧ isJunk N = false := by
  rcases q.k with e | ⟨x, e⟩ <;> subst e <;> exact ⟨rfl, rfl, rfl⟩
theorem f33r {N : AVal} (v : Ver) (sv : AVal) {h : Hp} {n : Nat} (q : NoIx h n N) (hf : Free h n) : Wp (callI env (evalW env) 33 [N, .agg (vcells v sv)]) h n fun v' h' n' => v' = .int .i64 1 ∧ Old h h' n := by
  refine wp_callI ff33 fi33 ?_
  simp only [fu33, Try.f33, Option.getD_some, List.replicate, core1, execOp, opd, nth, ended, resultOf, oneOrTup, List.cons_append, List.nil_append, List.length_cons, List.length_nil, Nat.reduceAdd, Nat.reduceSub, Nat.zero_add, wp_pure]
  refine opv_box (v := .agg (vcells v sv)) ti31 rfl hf fun H1 r1 o1 f1 => ?_
  simp only [core1, fgr, hkr, execOp, opd, opds, ofValue, putT, put, nth, forgetL, doCall, callV_func, List.nil_append, List.append_nil]
  refine opv_same (q.f H1 (n + 1) fun j hj => o1 j (by omega)) ?_
  simp only [core1, fgr, execOp, opd, ofValue, putT, put, nth, forgetL, true_and]
  exact fun j hj => o1 j (by omega)
theorem f36r {N : AVal} (p b : List AVal) (a c : Int) {h : Hp} {n : Nat} (q : NoIx h n N) (hf : Free h n) : Wp (callI env (evalW env) 36 [N, .agg p, .int .i64 a, .int .i64 c, .agg b]) h n fun v' h' n' => v' = .int .i64 1 ∧ Old h h' n := by
  refine wp_callI ff36 fi36 ?_
  simp only [fu36, Try.f36, Option.getD_some, List.replicate, core1, execOp, opd, nth, ended, resultOf, oneOrTup, List.cons_append, List.nil_append, List.length_cons, List.length_nil, Nat.reduceAdd, Nat.reduceSub, Nat.zero_add, wp_pure]
  refine opv_box (v := .agg p) ti28 rfl hf fun H1 r1 o1 f1 => ?_
  simp only [core1, execOp, opd, putT, put, nth]
  refine opv_box (v := .agg b) ti25 rfl f1 fun H2 r2 o2 f2 => ?_
  simp only [core1, fgr, hkr, execOp, opd, opds, ofValue, putT, put, nth, forgetL, doCall, callV_func, List.nil_append, List.append_nil]
  refine opv_same (q.f H2 (n + 1 + 1) fun j hj => by rw [o2 j (by omega), o1 j (by omega)]) ?_
  simp only [core1, fgr, execOp, opd, ofValue, putT, put, nth, forgetL, true_and]
  exact fun j hj => by rw [o2 j (by omega), o1 j (by omega)]
theorem f38r {N : AVal} (p : List AVal) (a : Int) {h : Hp} {n : Nat} (q : NoIx h n N) (hf : Free h n) : Wp (callI env (evalW env) 38 [N, .agg p, .int .i64 a]) h n fun v' h' n' => v' = .int .i64 1 ∧ Old h h' n := by
  refine wp_callI ff38 fi38 ?_
  simp only [fu38, Try.f38, Option.getD_some, List.replicate, core1, execOp, opd, nth, ended, resultOf, oneOrTup, List.cons_append, List.nil_append, List.length_cons, List.length_nil, Nat.reduceAdd, Nat.reduceSub, Nat.zero_add, wp_pure]
  refine opv_box (v := .agg p) ti28 rfl hf fun H1 r1 o1 f1 => ?_
  simp only [core1, fgr, hkr, execOp, opd, opds, ofValue, putT, put, nth, forgetL, doCall, callV_func, List.nil_append, List.append_nil]
  refine opv_same (q.f H1 (n + 1) fun j hj => o1 j (by omega)) ?_
  simp only [core1, fgr, execOp, opd, ofValue, putT, put, nth, forgetL, true_and]
  exact fun j hj => o1 j (by omega)
theorem f34r {N : AVal} (p : List AVal) (a : Int) {h : Hp} {n : Nat} (q : NoIx h n N) (hf : Free h n) : Wp (callI env (evalW env) 34 [N, .agg p, .int .i64 a]) h n fun v' h' n' => v' = .int .i64 1 ∧ Old h h' n := by
  refine wp_callI ff34 fi34 ?_
  simp only [fu34, Try.f34, Option.getD_some, List.replicate, core1, execOp, opd, nth, ended, resultOf, oneOrTup, List.cons_append, List.nil_append, List.length_cons, List.length_nil, Nat.reduceAdd, Nat.reduceSub, Nat.zero_add, wp_pure]
  refine opv_box (v := .agg p) ti28 rfl hf fun H1 r1 o1 f1 => ?_
  simp only [core1, fgr, hkr, execOp, opd, opds, ofValue, putT, put, nth, forgetL, doCall, callV_func, List.nil_append, List.append_nil]
  refine opv_same (q.f H1 (n + 1) fun j hj => o1 j (by omega)) ?_
  simp only [core1, fgr, execOp, opd, ofValue, putT, put, nth, forgetL, true_and]
  exact fun j hj => o1 j (by omega)
theorem f32r {N : AVal} {h : Hp} {n : Nat} (q : NoIx h n N) : Wp (callI env (evalW env) 32 [N]) h n fun v' h' n' => v' = .nils ∧ h' = h ∧ n' = n := by
  refine wp_callI ff32 fi32 ?_
  simp only [fu32, Try.f32, Option.getD_some, List.replicate, core1, fgr, hkr, execOp, opd, opds, ofValue, putT, put, nth, forgetL, doCall, callV_func, ended, resultOf, oneOrTup, List.cons_append, List.nil_append, List.append_nil, List.length_cons, List.length_nil, Nat.reduceSub, Nat.zero_add, wp_pure]
  refine opv_same (q.f h n (Old.refl _ _)) ?_
  simp only [core1, fgr, execOp, opd, ofValue, putT, put, nth, forgetL, and_self]
theorem f50r {N : AVal} {h : Hp} {n : Nat} (q : NoIx h n N) : Wp (callI env (evalW env) 50 [N]) h n fun v' h' n' => v' = .int .i64 0 ∧ h' = h ∧ n' = n := by
  refine wp_callI ff50 fi50 ?_
  simp only [fu50, Try.f50, Option.getD_some, List.replicate, core1, fgr, hkr, execOp, opd, opds, ofValue, putT, put, nth, forgetL, doCall, callV_func, ended, resultOf, oneOrTup, List.cons_append, List.nil_append, List.append_nil, List.length_cons, List.length_nil, Nat.reduceSub, Nat.zero_add, wp_pure]
  refine opv_same (q.f h n (Old.refl _ _)) ?_
  simp only [core1, fgr, execOp, opd, ofValue, putT, put, nth, forgetL, and_self]
theorem f41r {N : AVal} {h : Hp} {n : Nat} (q : NoIx h n N) : Wp (callI env (evalW env) 41 [N]) h n fun v' h' n' => v' = .nilp ∧ h' = h ∧ n' = n := by
  refine wp_callI ff41 fi41 ?_
  simp only [fu41, Try.f41, Option.getD_some, List.replicate, core1, fgr, hkr, execOp, opd, opds, ofValue, putT, put, nth, forgetL, doCall, callV_func, ended, resultOf, oneOrTup, List.cons_append, List.nil_append, List.append_nil, List.length_cons, List.length_nil, Nat.reduceSub, Nat.zero_add, wp_pure]
  refine opv_same (q.f h n (Old.refl _ _)) ?_
  simp only [core1, fgr, execOp, opd, ofValue, putT, put, nth, forgetL, and_self]
theorem f39r {N : AVal} (z : Int) {h : Hp} {n : Nat} (q : NoIx h n N) (hf : Free h n) : Wp (callI env (evalW env) 39 [N, .int .i64 z]) h n fun v' h' n' => v' = .nils ∧ Old h h' n := by
  refine wp_callI ff39 fi39 ?_
  simp only [fu39, Try.f39, Option.getD_some, List.replicate, core1, execOp, opd, nth, ended, resultOf, oneOrTup, List.cons_append, List.nil_append, List.length_cons, List.length_nil, Nat.reduceAdd, Nat.reduceSub, Nat.zero_add, wp_pure]
  refine opv_box (v := .int .i64 z) ti3 rfl hf fun H1 r1 o1 f1 => ?_
  simp only [core1, fgr, hkr, execOp, opd, opds, ofValue, putT, put, nth, forgetL, doCall, callV_func, List.nil_append, List.append_nil]
  refine opv_same (q.f H1 (n + 1) fun j hj => o1 j (by omega)) ?_
  simp only [core1, fgr, execOp, opd, ofValue, putT, put, nth, forgetL, true_and]
  exact fun j hj => o1 j (by omega)
theorem f44r {N : AVal} (z : Int) {h : Hp} {n : Nat} (q : NoIx h n N) : Wp (callI env (evalW env) 44 [N, .int .i64 z]) h n fun v' h' n' => v' = .nils ∧ h' = h ∧ n' = n := by
  refine wp_callI ff44 fi44 ?_
  simp only [fu44, Try.f44, Option.getD_some, List.replicate, core1, fgr, hkr, execOp, opd, opds, ofValue, putT, put, nth, forgetL, doCall, callV_func, ended, resultOf, oneOrTup, List.cons_append, List.nil_append, List.append_nil, List.length_cons, List.length_nil, Nat.reduceAdd, Nat.reduceSub, Nat.zero_add, wp_pure]
  refine opv_same (q.f h n (Old.refl _ _)) ?_
  simp only [core1, fgr, execOp, opd, putT, put, nth, forgetL, and_self]
theorem f43r {N sv : AVal} {l : List UInt8} (z : Int) {h : Hp} {n : Nat} (q : NoIx h n N) (hb : Bytes h sv l) (hf : Free h n) : Wp (callI env (evalW env) 43 [N, sv, .int .i64 z]) h n fun v' h' n' => v' = .nils ∧ Old h h' n := by
  refine wp_callI ff43 fi43 ?_
  simp only [fu43, Try.f43, Option.getD_some, List.replicate, core1, execOp, opd, nth, ended, resultOf, oneOrTup, List.cons_append, List.nil_append, List.length_cons, List.length_nil, Nat.reduceAdd, Nat.reduceSub, Nat.zero_add, wp_pure]
  refine opv_box (v := sv) ti29 hb.kind.2.2 hf fun H1 r1 o1 f1 => ?_
  simp only [core1, execOp, opd, putT, put, nth]
  refine opv_box (v := .int .i64 z) ti3 rfl f1 fun H2 r2 o2 f2 => ?_
  simp only [core1, tyr, fgr, hkr, execOp, opd, opds, ofValue, putT, put, nth, forgetL, doCall, callV_func, zeroOf, cel, alloc, doAlloc, newRow, List.nil_append, List.append_nil]
  have oo : Old h (upd H2 (n + 1 + 1) (some (Blk.row (Cont.l [AVal.nils]) 43))) n := fun j hj => by rw [upd_ne _ _ (by omega), o2 j (by omega), o1 j (by omega)]
  refine opv_same (q.f _ _ oo) ?_
  simp only [core1, fgr, execOp, opd, putT, put, nth, forgetL]
  rw [opv_rd ((Row.new H2 (n + 1 + 1) [AVal.nils] 43).one (off := 0) rfl ti43 rfl)]
  simp only [core1, fgr, execOp, opd, putT, put, nth, forgetL, true_and]
  exact oo
theorem f81r {N : AVal} (hash : List UInt8) (pn : Int) {h : Hp} {n : Nat} (q : NoIx h n N) : Wp (callI env (evalW env) 81 [N, .agg (pcells hash pn)]) h n fun v' h' n' => v' = .fn (.func 106) [] [.ptr n 0, .ptr (n + 1) 0] ∧ h' = upd (upd h n (some (.row (.l [N]) 56))) (n + 1) (some (.row (.l (pcells hash pn)) 28)) ∧ n' = n + 1 + 1 := by
  refine wp_callI ff81 fi81 ?_
  rcases q.k with e | ⟨x, e⟩ <;> subst e <;> simp only [fu81, Try.f81, Option.getD_some, List.replicate, core1, tyr, fgr, execOp, opd, opds, ofValue, putT, put, nth, forgetL, cel, alloc, newRow, ended, resultOf, oneOrTup, List.cons_append, List.nil_append, List.length_cons, List.length_nil, Nat.reduceAdd, Nat.reduceSub, and_self, Nat.zero_add, wp_pure]
theorem f106r {Y N p : AVal} {c1 : Nat} {h : Hp} {n : Nat} (q : NoIx h n N) (hY : Y.cells = [Y] ∧ oneCell Y = true ∧ isJunk Y = false) (hc1 : Row h c1 [N]) (hn1 : c1 < n) (hf : Free h n) :
    Wp (callI env (evalW env) 106 [Y, .ptr c1 0, p]) h n fun v' h' n' => v' = .tup [] ∧ Old h h' n := by
  refine wp_callI ff106 fi106 ?_
  simp only [fu106, Try.f106, Option.getD_some, List.replicate, core1, execOp, opd, nth, ended, resultOf, oneOrTup, List.cons_append, List.nil_append, List.length_cons, List.length_nil, Nat.reduceAdd, Nat.reduceSub, true_and, Nat.zero_add, wp_pure]
  refine opv_box (v := Y) ti129 hY.2.2 hf fun H1 r1 o1 f1 => ?_
  have old1 : Old h H1 n := fun j hj => o1 j (by omega)
  simp only [core1, fgr, execOp, opd, putT, put, nth, forgetL]
  rw [opv_rd ((hc1.keep (old1 c1 hn1)).one (off := 0) rfl ti56 rfl)]
  simp only [core1, hkr, execOp, opd, opds, putT, put, nth, doCall, callV_func, List.nil_append, List.append_nil]
  refine opv_same (q.f H1 (n + 1) old1) ?_
  simp only [core1, fgr, opd, putT, put, nth, forgetL, true_and]
  exact old1
theorem f49r {N : AVal} (hash : List UInt8) (pn : Int) (hl : hash.length = 32) {h : Hp} {n : Nat} (q : NoIx h n N) (hf : Free h n) :
    Wp (callI env (evalW env) 49 [N, .agg (pcells hash pn)]) h n fun v' h' n' => v' = .nils ∧ Old h h' n := by
  have qk := q.kind
  refine wp_callI ff49 fi49 ?_
  simp only [fu49, Try.f49, Option.getD_some, List.replicate, core1, execOp, opd, nth, ended, resultOf, oneOrTup, List.cons_append, List.nil_append, List.length_cons, List.length_nil, Nat.reduceAdd, Nat.reduceSub, Nat.zero_add, wp_pure]
  refine opv_box (v := .agg (pcells hash pn)) ti28 rfl hf fun H1 r1 o1 f1 => ?_
  replace r1 : Row H1 n (pcells hash pn) := r1
  simp only [core1, fgr, execOp, opd, ofValue, putT, put, forgetL]
  rw [opv_alloc ti43 rfl]
  obtain ⟨H2, hH2⟩ : ∃ H2, H2 = upd H1 (n + 1) (some (Blk.row (Cont.l [AVal.nils]) 43)) := ⟨_, rfl⟩
  show Ops env 49 none _ _ _ _ _ (upd H1 (n + 1) (some (Blk.row (Cont.l [AVal.nils]) 43))) _
  rw [← hH2]
  have f2 : Free H2 (n + 1 + 1) := by rw [hH2]; exact f1.new
  have o2 : ∀ j, j ≠ n + 1 → H2 j = H1 j := fun j hj => by rw [hH2, upd_ne _ _ hj]
  have r2 : Row H2 (n + 1) [AVal.nils] := by rw [hH2]; exact Row.new _ _ _ _
  clear hH2
  have r1' : Row H2 n (pcells hash pn) := r1.keep (o2 n (by omega))
  have old2 : Old h H2 n := fun j hj => by rw [o2 j (by omega), o1 j (by omega)]
  have q2 := q.old (n' := n + 1 + 1) (by omega) old2
  simp only [core1, fgr, execOp, opd, putT, put, nth, forgetL]
  rw [opv_rd (show Rd (load env 28 (.ptr n 0)) _ _ [n] (.agg (pcells hash pn)) from Row.whole r1' ti28 rfl (pcells_len hl))]
  simp only [core1, hkr, execOp, opd, opds, putT, put, nth, doCall, callV_func, List.nil_append, List.append_nil]
  refine opv_same (f81r hash pn q2) ?_
  simp only [core1, fgr, putT, put, forgetL]
  refine run_range (g := 106) (first := []) (cap := [.ptr (n + 1 + 1) 0, .ptr (n + 1 + 1 + 1) 0]) rfl rfl ?_
  generalize hlo : ALoop.mk LoopState.ready none 49 _ _ _ _ = lo
  obtain ⟨H6, hH6⟩ : ∃ H6, H6 = upd (upd (upd H2 (n + 1 + 1) (some (Blk.row (Cont.l [N]) 56))) (n + 1 + 1 + 1) (some (Blk.row (Cont.l (pcells hash pn)) 28))) (n + 1 + 1 + 1 + 1) (some (Blk.loop lo)) := ⟨_, rfl⟩
  show Wp (callF env (evalW env) 106 [AVal.fn (Fn.yield (n + 1 + 1 + 1 + 1)) [] [], AVal.ptr (n + 1 + 1) 0, AVal.ptr (n + 1 + 1 + 1) 0]) (upd (upd (upd H2 (n + 1 + 1) (some (Blk.row (Cont.l [N]) 56))) (n + 1 + 1 + 1) (some (Blk.row (Cont.l (pcells hash pn)) 28))) (n + 1 + 1 + 1 + 1) (some (Blk.loop lo))) _ _
  rw [hk106, ← hH6]
  have f6 : Free H6 (n + 1 + 1 + 1 + 1 + 1) := by rw [hH6]; exact f2.new.new.new
  have old6 : Old H2 H6 (n + 1 + 1) := fun j hj => by rw [hH6, upd_ne _ _ (by omega), upd_ne _ _ (by omega), upd_ne _ _ (by omega)]
  have g4 : Row H6 (n + 1 + 1) [N] := by rw [hH6]; exact ((Row.new _ _ _ _).upd (by omega)).upd (by omega)
  have g6 : H6 (n + 1 + 1 + 1 + 1) = some (.loop lo) := by rw [hH6, upd_same]
  clear hH6
  refine wp_mono ((f106r (q2.old (n' := n + 1 + 1 + 1 + 1 + 1) (by omega) old6) ⟨rfl, rfl, rfl⟩ g4 (by omega) f6).free f6) fun v7 h7 n7 ⟨⟨e7, o7⟩, hn7, f7⟩ => ?_
  have rc : Row (upd h7 (n + 1 + 1 + 1 + 1) (some (.loop { lo with state := .exhausted }))) (n + 1) [AVal.nils] := ((r2.keep (old6 _ (by omega))).keep (o7 _ (by omega))).upd (by omega)
  subst hlo
  refine ⟨_, (o7 _ (by omega)).trans g6, (fun q => by cases q), .normal, rfl, ?_⟩
  simp only [core1, execOp, opd, nth]
  rw [opv_rd (rc.one (off := 0) rfl ti43 rfl)]
  simp only [core1, fgr, execOp, opd, putT, put, nth, forgetL, true_and]
  exact fun j hj => by rw [upd_ne _ _ (by omega), o7 j (by omega), old6 j (by omega), old2 j hj]
theorem f37r {N : AVal} (hash : List UInt8) (pn z : Int) (hl : hash.length = 32) {h : Hp} {n : Nat} (q : NoIx h n N) (hf : Free h n) :
    Wp (callI env (evalW env) 37 [N, .agg (pcells hash pn), .int .i64 z]) h n fun v' h' n' => v' = .tup [.agg (vcells noV .nils), .bool false] ∧ Old h h' n := by
  have qk := q.kind
  refine wp_callI ff37 fi37 ?_
  simp only [fu37, Try.f37, Option.getD_some, List.replicate, core1, execOp, opd, nth, ended, resultOf, oneOrTup, List.cons_append, List.nil_append, List.length_cons, List.length_nil, Nat.reduceAdd, Nat.reduceSub, Nat.zero_add]
  refine opv_box (v := .agg (pcells hash pn)) ti28 rfl hf fun H1 r1 o1 f1 => ?_
  replace r1 : Row H1 n (pcells hash pn) := r1
  simp only [core1, execOp, opd, putT, put, nth]
  refine opv_box (v := .int .i64 z) ti3 rfl f1 fun H2 r2 o2 f2 => ?_
  simp only [core1, execOp, putT, put]
  rw [opv_alloc ti31 rfl]
  obtain ⟨H3, hH3⟩ : ∃ H3, H3 = upd H2 (n + 1 + 1) (some (Blk.row (Cont.l ty31.i.zero.cells) 31)) := ⟨_, rfl⟩
  show Ops env 37 none _ _ _ _ _ (upd H2 (n + 1 + 1) (some (Blk.row (Cont.l ty31.i.zero.cells) 31))) _
  rw [← hH3]
  have f3 : Free H3 (n + 1 + 1 + 1) := by rw [hH3]; exact f2.new
  have o3 : ∀ j, j ≠ n + 1 + 1 → H3 j = H2 j := fun j hj => by rw [hH3, upd_ne _ _ hj]
  have r3 : H3 (n + 1 + 1) = some (Blk.row (Cont.l ty31.i.zero.cells) 31) := by rw [hH3, upd_same]
  clear hH3
  simp only [core1, tyr, fgr, execOp, opd, ofValue, putT, put, nth, forgetL, zeroOf, cel, alloc, doAlloc, newRow]
  obtain ⟨H4, hH4⟩ : ∃ H4, H4 = upd H3 (n + 1 + 1 + 1) (some (Blk.row (Cont.l [AVal.nilp]) 128)) := ⟨_, rfl⟩
  rw [← hH4]
  have f4 : Free H4 (n + 1 + 1 + 1 + 1) := by rw [hH4]; exact f3.new
  have o4 : ∀ j, j ≠ n + 1 + 1 + 1 → H4 j = H3 j := fun j hj => by rw [hH4, upd_ne _ _ hj]
  have r4 : Row H4 (n + 1 + 1 + 1) [AVal.nilp] := by rw [hH4]; exact Row.new _ _ _ _
  clear hH4
  have old4 : Old h H4 n := fun j hj => by rw [o4 j (by omega), o3 j (by omega), o2 j (by omega), o1 j (by omega)]
  have r1' : Row H4 n (pcells hash pn) := ((r1.keep (o2 n (by omega))).keep (o3 n (by omega))).keep (o4 n (by omega))
  have r3' : H4 (n + 1 + 1) = some (Blk.row (Cont.l ty31.i.zero.cells) 31) := (o4 _ (by omega)).trans r3
  have q4 := q.old (n' := n + 1 + 1 + 1 + 1) (by omega) old4
  rw [opv_rd (show Rd (load env 28 (.ptr n 0)) _ _ [n] (.agg (pcells hash pn)) from Row.whole r1' ti28 rfl (pcells_len hl))]
  simp only [core1, hkr, execOp, opd, opds, putT, put, nth, doCall, callV_func, List.nil_append, List.append_nil]
  refine opv_same (f81r hash pn q4) ?_
  simp only [core1, fgr, putT, put, forgetL]
  refine run_range (g := 106) (first := []) (cap := [.ptr (n + 1 + 1 + 1 + 1) 0, .ptr (n + 1 + 1 + 1 + 1 + 1) 0]) rfl rfl ?_
  generalize hlo : ALoop.mk LoopState.ready none 37 _ _ _ _ = lo
  obtain ⟨H6, hH6⟩ : ∃ H6, H6 = upd (upd (upd H4 (n + 1 + 1 + 1 + 1) (some (Blk.row (Cont.l [N]) 56))) (n + 1 + 1 + 1 + 1 + 1) (some (Blk.row (Cont.l (pcells hash pn)) 28))) (n + 1 + 1 + 1 + 1 + 1 + 1) (some (Blk.loop lo)) := ⟨_, rfl⟩
  show Wp (callF env (evalW env) 106 [AVal.fn (Fn.yield (n + 1 + 1 + 1 + 1 + 1 + 1)) [] [], AVal.ptr (n + 1 + 1 + 1 + 1) 0, AVal.ptr (n + 1 + 1 + 1 + 1 + 1) 0]) (upd (upd (upd H4 (n + 1 + 1 + 1 + 1) (some (Blk.row (Cont.l [N]) 56))) (n + 1 + 1 + 1 + 1 + 1) (some (Blk.row (Cont.l (pcells hash pn)) 28))) (n + 1 + 1 + 1 + 1 + 1 + 1) (some (Blk.loop lo))) _ _
  rw [hk106, ← hH6]
  have f6 : Free H6 (n + 1 + 1 + 1 + 1 + 1 + 1 + 1) := by rw [hH6]; exact f4.new.new.new
  have old6 : Old H4 H6 (n + 1 + 1 + 1 + 1) := fun j hj => by rw [hH6, upd_ne _ _ (by omega), upd_ne _ _ (by omega), upd_ne _ _ (by omega)]
  have g4 : Row H6 (n + 1 + 1 + 1 + 1) [N] := by rw [hH6]; exact ((Row.new _ _ _ _).upd (by omega)).upd (by omega)
  have g6 : H6 (n + 1 + 1 + 1 + 1 + 1 + 1) = some (.loop lo) := by rw [hH6, upd_same]
  clear hH6
  refine wp_mono ((f106r (q4.old (n' := n + 1 + 1 + 1 + 1 + 1 + 1 + 1) (by omega) old6) ⟨rfl, rfl, rfl⟩ g4 (by omega) f6).free f6) fun v7 h7 n7 ⟨⟨e7, o7⟩, hn7, f7⟩ => ?_
  have rc : Row (upd h7 (n + 1 + 1 + 1 + 1 + 1 + 1) (some (.loop { lo with state := .exhausted }))) (n + 1 + 1 + 1) [AVal.nilp] := ((r4.keep (old6 _ (by omega))).keep (o7 _ (by omega))).upd (by omega)
  have res : upd h7 (n + 1 + 1 + 1 + 1 + 1 + 1) (some (.loop { lo with state := .exhausted })) (n + 1 + 1) = some (Blk.row (Cont.l ty31.i.zero.cells) 31) := by
    rw [upd_ne _ _ (by omega), o7 _ (by omega), old6 _ (by omega)]; exact r3'
  subst hlo
  refine ⟨_, (o7 _ (by omega)).trans g6, (fun q => by cases q), .normal, rfl, ?_⟩
  simp only [core1, execOp, opd, nth]
  rw [opv_rd (rc.one (off := 0) rfl ti128 rfl)]
  simp only [core1, tyr, fgr, execOp, opd, ofValue, ops2, putT, put, nth, forgetL, und, bor, binOther, strK, aggK, equalTop, equal, nilFn, nilPtr, boolOf, Bool.and_true, Bool.or_true, b31z]
  rw [opv_wr (Row.write (v := .agg ty31.i.zero.cells) res ti31 rfl (by decide) rfl)]
  have spl : splice ty31.i.zero.cells 0 (AVal.agg ty31.i.zero.cells).cells = ty31.i.zero.cells := splice_all rfl
  rw [spl]
  simp only [core1, fgr, execOp, opd, ofValue, putT, put, nth, forgetL, true_and]
  refine wp_rdb (Row.whole (cs := ty31.i.zero.cells) (Row.new _ _ _ _) ti31 rfl rfl) ?_
  refine wp_pure.2 ⟨by rw [z31n], fun j hj => ?_⟩
  rw [upd_ne _ _ (by omega), upd_ne _ _ (by omega), o7 j (by omega), old6 j (by omega), old4 j hj]
/- IndexNames. -/
def nv (pn made value spent : Int) (s : List UInt8) : Ver := ⟨z0, pn, made, value, s, false, spent, z0⟩
def a4 : Ver := nv 3 4 0 4 []
def a6 : Ver := nv 3 6 2 0 []
def b1v : Ver := nv 1 0 0 0 [98]
theorem bz28 : build env 28 [(1, .int .u32 3)] = M.pure (.agg (pcells z0 3)) := rfl
theorem bz28b : build env 28 [(1, .int .u32 1)] = M.pure (.agg (pcells z0 1)) := rfl
theorem bz25 : build env 25 [] = M.pure (.agg (z0.map u8)) := rfl
theorem nb1 : build env 31 [(0, .agg (pcells z0 3)), (1, .int .i64 (-1))] = M.pure (.agg (vcells (nv 3 (-1) 0 0 []) .nils)) := rfl
theorem nb2 : build env 31 [(0, .agg (pcells z0 3)), (1, .int .i64 4), (5, .int .i64 3)] = M.pure (.agg (vcells (nv 3 4 0 3 []) .nils)) := rfl
theorem nb3 : build env 31 [(0, .agg (pcells z0 3)), (1, .int .i64 0), (5, .int .i64 (-1))] = M.pure (.agg (vcells (nv 3 0 0 (-1) []) .nils)) := rfl
theorem nb4 : build env 31 [(0, .agg (pcells z0 3)), (1, .int .i64 4), (5, .int .i64 4)] = M.pure (.agg (vcells a4 .nils)) := rfl
theorem nb6 : build env 31 [(0, .agg (pcells z0 3)), (1, .int .i64 6), (2, .int .i64 2)] = M.pure (.agg (vcells a6 .nils)) := rfl
theorem nb0 : build env 31 [] = M.pure (.agg (vcells noV .nils)) := rfl
theorem nb9 {s : AVal} (hs : s.cells = [s] ∧ oneCell s = true ∧ isJunk s = false) : build env 31 [(0, .agg (pcells z0 1)), (3, s)] = M.pure (.agg (vcells b1v s)) := by
  have e1 : ∀ pl : Nat → Option (Nat × Nat), pl 0 = some (0, 33) → pl 3 = some (35, 1) → fill pl ty31.i.zero.cells [(0, .agg (pcells z0 1)), (3, s)] = some (vcells b1v s) := fun pl p0 p3 => by
    rw [z31, fill_at p0 rfl rfl rfl rfl]
    have e : [] ++ (AVal.agg (pcells z0 1)).cells ++ ([AVal.int .i64 0] ++ z36) = (pcells z0 1 ++ [.int .i64 0, .int .i64 0]) ++ [.nils] ++ ([.bool false, .int .i64 0] ++ List.replicate 32 (.int .u8 0)) := rfl
    rw [e, fill_at p3 rfl rfl (by rw [hs.1]; rfl) hs.2.2, hs.1]
    simp only [fill]
    congr 1
  have e2 : build env 31 [(0, .agg (pcells z0 1)), (3, s)] = (getO "build" (fill ([(0, 33), (33, 1), (34, 1), (35, 1), (36, 1), (37, 1), (38, 32)][·]?) ty31.i.zero.cells [(0, .agg (pcells z0 1)), (3, s)])).bind fun cs => M.pure (.agg cs) := rfl
  rw [e2, e1 _ rfl rfl]
  rfl
def L3 : List Ver := [b1v, a4, a6]
theorem nm1 : putV [] a4 = [a4] := rfl
theorem nm2 : putV [a4] a6 = [a4, a6] := by kernel_rfl
theorem nm3 : putV [a4, a6] b1v = L3 := by kernel_rfl
theorem nm4 : dropV L3 a4 = [b1v, a6] := by kernel_rfl
theorem ne4 : ¬ errP a4 [] := by
  rintro (h | ⟨w, hw, _⟩)
  · cases h
  · cases hw
theorem ne6 : ¬ errP a6 [a4] := by
  rintro (h | ⟨w, hw, h⟩)
  · cases h
  · rw [List.mem_singleton.1 hw] at h
    revert h
    decide +kernel
theorem ne9 : ¬ errP b1v [a4, a6] := by
  rintro (h | ⟨w, hw, h⟩)
  · cases h
  · rcases List.mem_cons.1 hw with q | q
    · rw [q] at h; revert h; decide +kernel
    · rw [List.mem_singleton.1 q] at h; revert h; decide +kernel
theorem nk1 : cmpV a4 (key z0 3 5) ≠ 0 := by decide +kernel
theorem nk2 : cmpV a6 (key z0 3 5) ≠ 0 := by decide +kernel
theorem nk3 : cmpV b1v (key z0 3 5) ≠ 0 := by decide +kernel
theorem nk4 : cmpV a4 (key z0 3 4) = 0 := by decide +kernel
theorem nk5 : cmpV a6 (key z0 3 4) ≠ 0 := by decide +kernel
theorem nk6 : cmpV b1v (key z0 3 4) ≠ 0 := by decide +kernel
theorem nh : hisV L3 z0 3 = [a4, a6] := by kernel_rfl
theorem na4 : (L3.filter fun v => there v 4) = [b1v] := by kernel_rfl
theorem na6 : (L3.filter fun v => there v 6) = [b1v, a6] := by kernel_rfl
theorem nan : (L3.filter fun v => there v (-1)) = [] := by kernel_rfl
theorem no5 : ofV L3 [] 5 = [] := by kernel_rfl
theorem no6 : ofV L3 [] 6 = [a6] := by kernel_rfl
theorem ns6 {S : List Ver} (rS : Rises true S) (perm : L3.Perm S) : cmpL (scr 6 S) = [[], [98]] := by
  have p0 : L3.Perm [a4, a6, b1v] := (List.perm_middle (l₁ := [a4, a6]) (l₂ := []) (a := b1v)).symm
  have r0 : Rises true [a4, a6, b1v] := by
    refine List.Pairwise.cons (fun b hb => ?_) (List.Pairwise.cons (fun b hb => ?_) (List.Pairwise.cons (fun b hb => by cases hb) .nil))
    · rcases List.mem_cons.1 hb with q | q
      · rw [q]; decide +kernel
      · rw [List.mem_singleton.1 q]; decide +kernel
    · rw [List.mem_singleton.1 hb]; decide +kernel
  have e : S = [a4, a6, b1v] := rises_perm rS r0 (perm.symm.trans p0)
  have e2 : cmpL (scr 6 [a4, a6, b1v]) = [[], [98]] := by kernel_rfl
  rw [e, e2]
theorem BL.get {h : Hp} {a b : Nat} {v : AVal} {ls : List (List UInt8)} (l : BL h a b v ls) {i : Nat} {z : Int} (hz : z = (i : Nat)) (hi : i < ls.length) : ∃ x, (∀ h' n', Rd (indexAddr env 81 v (.int .i64 z)) h' n' [] (addrOf (i * 1) v)) ∧ (∀ n, Rd (load env 29 (addrOf (i * 1) v)) h n (rid v) x) ∧ Bytes h x ls[i] := by
  subst hz
  obtain ⟨x, e, bs, d⟩ := l.at_ hi
  exact ⟨x, fun h' n' => l.idx hi, e, bs⟩
theorem VL.pn_ {h : Hp} {a b : Nat} {v : AVal} {vs : List Ver} (l : VL h a b v vs) {i : Nat} (hi : i < vs.length) (n : Nat) : Rd (load env 26 (addrOf (i * 70 + 32) v)) h n (rid v) (.int .u32 vs[i].pn) := by
  obtain ⟨cells, c1, c2, c3⟩ := l
  obtain ⟨sv, e, bs, o, d⟩ := c2.at_ i hi
  refine c1.rds.load ti26 rfl ?_
  rw [piece e (by omega)]
  unfold vcells
  rw [List.getElem?_append_left (by rw [pcells_len o.h]; omega)]
  exact pcells_n o.h
set_option maxHeartbeats 4000000 in
theorem law9 : Wp (callI env (evalW env) 9 []) (fun _ => none) 0 fun v _ _ => v = .bool true := by
  refine wp_callI ff9 fi9 ?_
  simp only [fu9, Try.f9, Option.getD_some, List.replicate, core1, fgr, hkr, execOp, opd, opds, ofValue, putT, put, forgetL, doCall, callV_func, ended, resultOf, oneOrTup, List.append_eq, List.cons_append, List.nil_append, List.append_nil, List.length_nil, Nat.reduceSub, Int.reduceNeg, wp_pure]
  refine opv_callf Free.none (f40k _ 0 Free.none) fun v1 h1 n1 hn1 f1 ⟨x, e1, hx, s1, o1⟩ => ?_
  subst e1
  simp only [core1, fgr, execOp, opd, ofValue, ops2, putT, put, nth, forgetL, Int.reduceNeg, bz28]
  rw [opv_alloc ti28 rfl]
  simp only [core1, execOp, opd, putT, put, nth, cel, Int.reduceNeg]
  refine opv_hold (v := .agg (pcells z0 3)) ti28 rfl rfl (pcells_one _ _) f1 fun H2 r2 o2 f2 => ?_
  replace r2 : Row H2 n1 (pcells z0 3) := r2
  have s2 := s1.grow (n' := n1 + 1) (by omega) (fun j hj => o2 j (by omega))
  replace s2 : Ixk (fun j => j = n1) H2 (n1 + 1) x [] := s2.sub fun j q => .inr (by omega)
  have ld : ∀ (h : Hp) (n : Nat), Row h n1 (pcells z0 3) → Rd (load env 28 (.ptr n1 0)) h n [n1] (.agg (pcells z0 3)) := fun h n hr => Row.whole hr ti28 rfl rfl
  simp only [core1, fgr, execOp, opd, putT, put, nth, forgetL, Int.reduceNeg]
  rw [opv_rd (ld _ _ r2)]
  simp only [core1, hkr, execOp, opd, opds, ofValue, ops2, putT, put, nth, doCall, callV_func, List.nil_append, List.append_nil, Int.reduceNeg, nb1]
  refine opv_callf f2 (f33k (nv 3 (-1) 0 0 []) .nils ⟨rfl, rfl⟩ (by decide) (by decide) s2 .nils (fun j q => by cases q) (by decide) f2) fun v3 h3 n3 hn3 f3 ⟨k3, hh⟩ => ?_
  rcases hh with ⟨_, e3, s3⟩ | ⟨q, _⟩
  rotate_left
  · exact absurd (.inl rfl) q
  subst e3
  have r3 := r2.keep (k3 n1 rfl)
  simp only [core1, fgr, execOp, opd, putT, put, nth, forgetL, Int.reduceNeg]
  rw [opv_rd (ld _ _ r3)]
  simp only [core1, hkr, execOp, opd, opds, ofValue, ops2, putT, put, nth, doCall, callV_func, List.nil_append, List.append_nil, Int.reduceNeg, nb2]
  refine opv_callf f3 (f33k (nv 3 4 0 3 []) .nils ⟨rfl, rfl⟩ (by decide) (by decide) s3 .nils (fun j q => by cases q) (by decide) f3) fun v4 h4 n4 hn4 f4 ⟨k4, hh⟩ => ?_
  rcases hh with ⟨_, e4, s4⟩ | ⟨q, _⟩
  rotate_left
  · exact absurd (.inl rfl) q
  subst e4
  have r4 := r3.keep (k4 n1 rfl)
  simp only [core1, fgr, execOp, opd, putT, put, nth, forgetL, Int.reduceNeg]
  rw [opv_rd (ld _ _ r4)]
  simp only [core1, hkr, execOp, opd, opds, ofValue, ops2, putT, put, nth, doCall, callV_func, List.nil_append, List.append_nil, Int.reduceNeg, nb3]
  refine opv_callf f4 (f33k (nv 3 0 0 (-1) []) .nils ⟨rfl, rfl⟩ (by decide) (by decide) s4 .nils (fun j q => by cases q) (by decide) f4) fun v5 h5 n5 hn5 f5 ⟨k5, hh⟩ => ?_
  rcases hh with ⟨_, e5, s5⟩ | ⟨q, _⟩
  rotate_left
  · exact absurd (.inl rfl) q
  subst e5
  have r5 := r4.keep (k5 n1 rfl)
  simp only [core1, fgr, execOp, opd, putT, put, nth, forgetL, Int.reduceNeg]
  rw [opv_rd (ld _ _ r5)]
  simp only [core1, hkr, execOp, opd, opds, ofValue, ops2, putT, put, nth, doCall, callV_func, List.nil_append, List.append_nil, Int.reduceNeg, nb4]
  refine opv_callf f5 (f33k a4 .nils ⟨rfl, rfl⟩ (by decide) (by decide) s5 .nils (fun j q => by cases q) (by decide) f5) fun v6 h6 n6 hn6 f6 ⟨k6, hh⟩ => ?_
  rcases hh with ⟨q, _⟩ | ⟨_, e6, s6⟩
  · exact absurd q ne4
  subst e6
  rw [nm1] at s6
  have r6 := r5.keep (k6 n1 rfl)
  simp only [core1, fgr, execOp, opd, putT, put, nth, forgetL, Int.reduceNeg]
  rw [opv_rd (ld _ _ r6)]
  simp only [core1, hkr, execOp, opd, opds, ofValue, ops2, putT, put, nth, doCall, callV_func, List.nil_append, List.append_nil, Int.reduceNeg, bz25]
  refine opv_callf f6 (f36k z0 3 4 9 z0 rfl rfl s6 (by decide) f6) fun v7 h7 n7 hn7 f7 ⟨k7, hh⟩ => ?_
  rcases hh with ⟨_, e7, s7⟩ | ⟨w, hw, _, q, _⟩
  rotate_left
  · rw [List.mem_singleton.1 hw] at q
    exact absurd q (by decide)
  subst e7
  have r7 := r6.keep (k7 n1 rfl)
  simp only [core1, fgr, execOp, opd, putT, put, nth, forgetL, Int.reduceNeg]
  rw [opv_rd (ld _ _ r7)]
  simp only [core1, hkr, execOp, opd, opds, ofValue, ops2, putT, put, nth, doCall, callV_func, List.nil_append, List.append_nil, Int.reduceNeg, nb6]
  refine opv_callf f7 (f33k a6 .nils ⟨rfl, rfl⟩ (by decide) (by decide) s7 .nils (fun j q => by cases q) (by decide) f7) fun v8 h8 n8 hn8 f8 ⟨k8, hh⟩ => ?_
  rcases hh with ⟨q, _⟩ | ⟨_, e8, s8⟩
  · exact absurd q ne6
  subst e8
  rw [nm2] at s8
  have r8 := r7.keep (k8 n1 rfl)
  simp only [core1, fgr, execOp, opd, putT, put, nth, forgetL, Int.reduceNeg]
  rw [opv_rd (ld _ _ r8)]
  simp only [core1, hkr, execOp, opd, opds, ofValue, ops2, putT, put, nth, doCall, callV_func, List.nil_append, List.append_nil, Int.reduceNeg, bz25]
  refine opv_callf f8 (f36k z0 3 6 5 z0 rfl rfl s8 (by decide) f8) fun v9 h9 n9 hn9 f9 ⟨k9, hh⟩ => ?_
  rcases hh with ⟨_, e9, s9⟩ | ⟨w, hw, _, _, _, q, _⟩
  rotate_left
  · exact absurd q (by decide)
  subst e9
  have r9 := r8.keep (k9 n1 rfl)
  simp only [core1, fgr, execOp, opd, putT, put, nth, forgetL, Int.reduceNeg]
  rw [opv_rd (ld _ _ r9)]
  simp only [core1, hkr, execOp, opd, opds, ofValue, ops2, putT, put, nth, doCall, callV_func, List.nil_append, List.append_nil, Int.reduceNeg, bz25]
  refine opv_callf f9 (f36k z0 3 5 7 z0 rfl rfl s9 (by decide) f9) fun v10 h10 n10 hn10 f10 ⟨k10, hh⟩ => ?_
  rcases hh with ⟨_, e10, s10⟩ | ⟨w, hw, q, _⟩
  rotate_left
  · exfalso
    rcases List.mem_cons.1 hw with q' | q'
    · rw [q'] at q; exact nk1 q
    · rw [List.mem_singleton.1 q'] at q; exact nk2 q
  subst e10
  have r10 := r9.keep (k10 n1 rfl)
  simp only [core1, tyr, fgr, execOp, opd, ofValue, ops2, putT, put, nth, forgetL, und, cel, getO, List.cons_append, List.nil_append, List.append_nil, List.length_cons, List.length_nil, Nat.beq, Int.reduceNeg, Bool.not_false, Bool.and_true, Bool.true_and, Nat.zero_add, Nat.zero_mul, buildSlice, reps, fill, List.take_zero, List.drop_succ_cons, List.drop_zero, Nat.ble, Nat.one_mul, List.length_cons, List.length_nil, Nat.zero_mul, bz28b]
  refine opv_row ti5 f10 (f := fun id => AVal.sl id 0 1 (some 1) 1) fun H11 r11 o11 f11 => ?_
  have hb11 : Bytes H11 (.sl n10 0 1 (some 1) 1) [98] := Bytes.fresh (l := [98]) r11
  have s11 := s10.old (n' := n10 + 1) (by omega) (fun j hj => o11 j (by omega))
  have kd : AVal.cells (.sl n10 0 1 (some 1) 1) = [.sl n10 0 1 (some 1) 1] ∧ oneCell (.sl n10 0 1 (some 1) 1) = true ∧ isJunk (.sl n10 0 1 (some 1) 1) = false := ⟨rfl, rfl, rfl⟩
  have n1lt := s10.k (j := n1) rfl
  have r11' : Row H11 n1 (pcells z0 3) := r10.keep (o11 n1 (by omega))
  simp only [core1, tyr, hkr, execOp, opd, opds, ops2, putT, put, nth, doCall, callV_func, und, lenOf, strK, intK, rowK, List.nil_append, List.append_nil, Nat.beq, Int.reduceNeg, not_false_eq_true, Bool.true_and, true_and, reduceCtorEq, convert, convStr, isU8, r11, touch, Option.some.injEq, exists_eq_left', nb9 kd, show (Nat.blt 0 1) = true from rfl, ne_eq, not_false_eq_true, true_and]
  rw [upd_self r11]
  refine opv_callf f11 (f33k b1v _ ⟨rfl, rfl⟩ (by decide) (by decide) s11 hb11 (fun j q => by injection q with q; omega) (by decide) f11) fun v12 h12 n12 hn12 f12 ⟨k12, hh⟩ => ?_
  rcases hh with ⟨q, _⟩ | ⟨_, e12, s12⟩
  · exact absurd q ne9
  subst e12
  rw [nm3] at s12
  have r12 := r11'.keep (k12 n1 rfl)
  simp only [core1, fgr, hkr, execOp, opd, opds, ofValue, ops2, putT, put, nth, forgetL, doCall, callV_func, List.nil_append, List.append_nil, Int.reduceNeg, bz28b, bz25]
  refine opv_callf f12 (f36k z0 1 0 0 z0 rfl rfl s12 (by decide) f12) fun v13 h13 n13 hn13 f13 ⟨k13, hh⟩ => ?_
  rcases hh with ⟨_, e13, s13⟩ | ⟨w, hw, _, _, q, _⟩
  rotate_left
  · exact absurd q (by decide)
  subst e13
  have r13 := r12.keep (k13 n1 rfl)
  simp only [core1, fgr, execOp, opd, putT, put, nth, forgetL, Int.reduceNeg]
  rw [opv_rd (ld _ _ r13)]
  simp only [core1, hkr, execOp, opd, opds, ofValue, putT, put, nth, doCall, callV_func, List.nil_append, List.append_nil, Int.reduceNeg]
  refine opv_callf f13 (f34k z0 3 5 rfl s13 (by decide) f13) fun v14 h14 n14 hn14 f14 ⟨k14, hh⟩ => ?_
  rcases hh with ⟨_, e14, s14⟩ | ⟨w, hw, q, _⟩
  rotate_left
  · exfalso
    rcases List.mem_cons.1 hw with q' | hw
    · rw [q'] at q; exact nk3 q
    · rcases List.mem_cons.1 hw with q' | q'
      · rw [q'] at q; exact nk1 q
      · rw [List.mem_singleton.1 q'] at q; exact nk2 q
  subst e14
  have r14 := r13.keep (k14 n1 rfl)
  simp only [core1, fgr, hkr, execOp, opd, opds, ofValue, putT, put, nth, forgetL, doCall, callV_func, bor, binInt, shiftB, intOp, doPick, branch, List.getElem?_cons_succ, List.getElem?_cons_zero, List.nil_append, List.append_nil, Int.reduceNeg, decide_true, beq_self_eq_true]
  refine opv_same (f50k s14) ?_
  simp only [core1, fgr, hkr, execOp, opd, opds, ofValue, putT, put, nth, forgetL, doCall, callV_func, bor, binInt, shiftB, intOp, doPick, branch, List.getElem?_cons_succ, List.getElem?_cons_zero, List.nil_append, List.append_nil, Int.reduceNeg, decide_true, beq_self_eq_true, show ((L3.length : Nat) : Int) = 3 from rfl]
  refine opv_callf f14 (f32k s14 (by decide) f14) fun v15 h15 n15 hn15 f15 ⟨l15, o15⟩ => ?_
  have s15 := s14.old hn15 o15
  have n1lt := s14.k (j := n1) rfl
  have r15 := r14.keep (o15 n1 (by omega))
  simp only [core1, fgr, execOp, opd, opds, ofValue, putT, put, nth, forgetL, doCall, builtin, one1, bor, binInt, shiftB, intOp, Int.reduceNeg, decide_true, bne_self_eq_false, l15.len, show ((L3.length : Nat) : Int) = 3 from rfl]
  obtain ⟨w0, va0⟩ := l15.at_ (i := 0) (by decide)
  obtain ⟨w1, va1⟩ := l15.at_ (i := 1) (by decide)
  obtain ⟨w2, va2⟩ := l15.at_ (i := 2) (by decide)
  have mv := va0.mv
  rw [opv_rd (show Rd (indexAddr env 43 v15 (.int .i64 0)) h15 n15 [] (addrOf 0 v15) from l15.idx (i := 0) (by decide))]
  simp only [core1, tyr, execOp, opd, putT, put, nth, und, sizeOf, getO, fieldAddr, List.getElem?_cons_succ, List.getElem?_cons_zero, Int.reduceNeg, Nat.zero_add, mv]
  rw [opv_rd (show Rd (load env 26 (addrOf 32 v15)) h15 n15 (rid v15) (.int .u32 1) from l15.pn_ (i := 0) (by decide) n15)]
  simp only [core1, execOp, opd, ofValue, putT, put, nth, bor, binInt, shiftB, intOp, List.getElem?_cons_succ, List.getElem?_cons_zero, Int.reduceNeg, decide_true, beq_self_eq_true]
  rw [opv_rd (show Rd (indexAddr env 43 v15 (.int .i64 1)) h15 n15 [] (addrOf 70 v15) from l15.idx (i := 1) (by decide))]
  simp only [core1, tyr, execOp, opd, putT, put, nth, und, sizeOf, getO, fieldAddr, List.getElem?_cons_succ, List.getElem?_cons_zero, Nat.reduceAdd, Int.reduceNeg, mv]
  rw [opv_rd (show Rd (load env 3 (addrOf 103 v15)) h15 n15 (rid v15) (.int .i64 4) from va1.made n15)]
  simp only [core1, execOp, opd, ofValue, putT, put, nth, bor, binInt, shiftB, intOp, doPick, branch, List.getElem?_cons_succ, List.getElem?_cons_zero, Int.reduceNeg, decide_true, beq_self_eq_true]
  rw [opv_rd (show Rd (indexAddr env 43 v15 (.int .i64 2)) h15 n15 [] (addrOf 140 v15) from l15.idx (i := 2) (by decide))]
  simp only [core1, tyr, execOp, opd, putT, put, nth, und, sizeOf, getO, fieldAddr, List.getElem?_cons_succ, List.getElem?_cons_zero, Nat.reduceAdd, Int.reduceNeg, mv]
  rw [opv_rd (show Rd (load env 3 (addrOf 173 v15)) h15 n15 (rid v15) (.int .i64 6) from va2.made n15)]
  simp only [core1, execOp, opd, ofValue, putT, put, nth, bor, binInt, shiftB, intOp, doPick, branch, List.getElem?_cons_succ, List.getElem?_cons_zero, Int.reduceNeg, decide_true, beq_self_eq_true]
  rw [opv_rd (ld _ _ r15)]
  simp only [core1, hkr, execOp, opd, opds, putT, put, nth, doCall, callV_func, List.getElem?_cons_succ, List.getElem?_cons_zero, List.nil_append, List.append_nil, Int.reduceNeg]
  refine opv_callf f15 (f49k z0 3 rfl s15 (by decide) f15) fun v16 h16 n16 hn16 f16 ⟨l16, o16⟩ => ?_
  have s16 := s15.old hn16 o16
  have r16 := r15.keep (o16 n1 (by omega))
  have bl16 := l16.len (ts := [])
  rw [nh] at bl16
  simp only [core1, hkr, execOp, opd, opds, ofValue, putT, put, nth, doCall, callV_func, builtin, one1, bor, binInt, shiftB, intOp, doPick, branch, List.getElem?_cons_succ, List.getElem?_cons_zero, List.nil_append, List.append_nil, List.length_cons, List.length_nil, Nat.reduceAdd, Int.cast_ofNat_Int, Int.reduceNeg, decide_true, Nat.zero_add, beq_self_eq_true, bl16]
  refine opv_callf f16 (f39k 4 s16 (by decide) f16) fun v17 h17 n17 hn17 f17 ⟨l17, o17⟩ => ?_
  have s17 := s16.old hn17 o17
  have r17 := r16.keep (o17 n1 (by omega))
  have bl17 := l17.len (ts := [])
  rw [na4] at bl17
  simp only [core1, hkr, execOp, opd, opds, ofValue, putT, put, nth, doCall, callV_func, builtin, one1, bor, binInt, shiftB, intOp, doPick, branch, List.getElem?_cons_succ, List.getElem?_cons_zero, List.nil_append, List.append_nil, List.length_cons, List.length_nil, Int.cast_ofNat_Int, Int.reduceNeg, decide_true, Nat.zero_add, beq_self_eq_true, bl17]
  refine opv_callf f17 (f39k 6 s17 (by decide) f17) fun v18 h18 n18 hn18 f18 ⟨l18, o18⟩ => ?_
  have s18 := s17.old hn18 o18
  have r18 := r17.keep (o18 n1 (by omega))
  have bl18 := l18.len (ts := [])
  rw [na6] at bl18
  simp only [core1, hkr, execOp, opd, opds, ofValue, putT, put, nth, doCall, callV_func, builtin, one1, bor, binInt, shiftB, intOp, doPick, branch, List.getElem?_cons_succ, List.getElem?_cons_zero, List.nil_append, List.append_nil, List.length_cons, List.length_nil, Nat.reduceAdd, Int.cast_ofNat_Int, Int.reduceNeg, decide_true, Nat.zero_add, beq_self_eq_true, bl18]
  refine opv_callf f18 (f39k (-1) s18 (by decide) f18) fun v19 h19 n19 hn19 f19 ⟨l19, o19⟩ => ?_
  have s19 := s18.old hn19 o19
  have r19 := r18.keep (o19 n1 (by omega))
  have bl19 := l19.len (ts := [])
  rw [nan] at bl19
  simp only [core1, hkr, execOp, opd, opds, ofValue, putT, put, nth, doCall, callV_func, builtin, one1, bor, binInt, shiftB, intOp, doPick, branch, List.getElem?_cons_succ, List.getElem?_cons_zero, List.nil_append, List.append_nil, List.length_nil, Int.cast_ofNat_Int, Int.reduceNeg, decide_true, beq_self_eq_true, bl19]
  have scr : ∀ {h n}, Ixk (fun j => j = n1) h n x L3 → Free h n → Wp (callI env (evalW env) 44 [.ptr x 0, .int .i64 6]) h n fun v' h' n' => BL h' n n' v' [[], [98]] ∧ Old h h' n := fun s f => by
    obtain ⟨⟨D, M, ix, _⟩, gL⟩ := s
    refine wp_mono (f44 x 6 L3 D M _ _ ix (by decide) f) fun v' h' n' ⟨S, rS, perm, b, o⟩ => ⟨?_, o⟩
    rwa [ns6 rS perm] at b
  refine opv_callf f19 (scr s19 f19) fun v20 h20 n20 hn20 f20 ⟨l20, o20⟩ => ?_
  have s20 := s19.old hn20 o20
  have r20 := r19.keep (o20 n1 (by omega))
  simp only [core1, hkr, execOp, opd, opds, ofValue, putT, put, nth, doCall, callV_func, builtin, one1, bor, binInt, shiftB, intOp, doPick, branch, List.getElem?_cons_succ, List.getElem?_cons_zero, List.nil_append, List.append_nil, List.length_cons, List.length_nil, Nat.reduceAdd, Int.cast_ofNat_Int, Int.reduceNeg, decide_true, Nat.zero_add, beq_self_eq_true, l20.len u81]
  refine opv_callf f20 (scr s20 f20) fun v21 h21 n21 hn21 f21 ⟨l21, o21⟩ => ?_
  have s21 := s20.old hn21 o21
  have r21 := r20.keep (o21 n1 (by omega))
  obtain ⟨x0, ix0, ld0, by0⟩ := l21.get (i := 0) (z := 0) rfl (by decide)
  simp only [core1, execOp, opd, ofValue, putT, put, nth, List.getElem?_cons_succ, List.getElem?_cons_zero, Int.reduceNeg]
  rw [opv_rd (ix0 _ _)]
  simp only [core1, execOp, opd, putT, put, nth, List.getElem?_cons_succ, List.getElem?_cons_zero, Int.reduceNeg, Nat.zero_mul]
  rw [opv_rd (ld0 _)]
  have bl0 := by0.bLen (E := env) (ts := []) t29
  simp only [core1, hkr, execOp, opd, opds, ofValue, putT, put, nth, doCall, callV_func, builtin, one1, bor, binInt, shiftB, intOp, doPick, branch, List.getElem?_cons_succ, List.getElem?_cons_zero, List.nil_append, List.append_nil, Int.reduceNeg, decide_true, beq_self_eq_true, bl0, show (((([[], [98]] : List (List UInt8))[0]).length : Nat) : Int) = 0 from rfl]
  refine opv_callf f21 (scr s21 f21) fun v22 h22 n22 hn22 f22 ⟨l22, o22⟩ => ?_
  have s22 := s21.old hn22 o22
  have r22 := r21.keep (o22 n1 (by omega))
  obtain ⟨x1, ix1, ld1, by1⟩ := l22.get (i := 1) (z := 1) rfl (by decide)
  simp only [core1, execOp, opd, ofValue, putT, put, nth, List.getElem?_cons_succ, List.getElem?_cons_zero, Int.reduceNeg]
  rw [opv_rd (ix1 _ _)]
  simp only [core1, execOp, opd, putT, put, nth, List.getElem?_cons_succ, List.getElem?_cons_zero, Int.reduceNeg]
  rw [opv_rd (ld1 _)]
  simp only [core1, execOp, opd, putT, put, nth, List.getElem?_cons_succ, List.getElem?_cons_zero, Int.reduceNeg]
  rw [opv_rd (by1.str_rd t29 t9 t5)]
  simp only [core1, hkr, execOp, opd, opds, ofValue, putT, put, nth, doCall, callV_func, bor, strOp, strK, doPick, branch, List.getElem?_cons_succ, List.getElem?_cons_zero, List.nil_append, List.append_nil, Int.reduceNeg, beq_self_eq_true, show (([[], [98]] : List (List UInt8))[1]) = [98] from rfl]
  refine opv_callf f22 (f43k .nils [] 5 s22 .nils (fun j q => by cases q) (by decide) f22) fun v23 h23 n23 hn23 f23 ⟨l23, o23⟩ => ?_
  have s23 := s22.old hn23 o23
  have r23 := r22.keep (o23 n1 (by omega))
  have bl23 := l23.len (ts := [])
  rw [no5] at bl23
  simp only [core1, hkr, execOp, opd, opds, ofValue, putT, put, nth, doCall, callV_func, builtin, one1, bor, binInt, shiftB, intOp, doPick, branch, List.getElem?_cons_succ, List.getElem?_cons_zero, List.nil_append, List.append_nil, List.length_nil, Int.cast_ofNat_Int, Int.reduceNeg, decide_true, beq_self_eq_true, bl23]
  refine opv_callf f23 (f43k .nils [] 6 s23 .nils (fun j q => by cases q) (by decide) f23) fun v24 h24 n24 hn24 f24 ⟨l24, o24⟩ => ?_
  have s24 := s23.old hn24 o24
  have r24 := r23.keep (o24 n1 (by omega))
  have bl24 := l24.len (ts := [])
  rw [no6] at bl24
  simp only [core1, fgr, execOp, opd, opds, ofValue, putT, put, nth, forgetL, doCall, builtin, one1, bor, binInt, shiftB, intOp, doPick, branch, List.getElem?_cons_succ, List.getElem?_cons_zero, List.length_cons, List.length_nil, Int.cast_ofNat_Int, Int.reduceNeg, decide_true, Nat.zero_add, beq_self_eq_true, bl24]
  rw [opv_rd (ld _ _ r24)]
  simp only [core1, hkr, execOp, opd, opds, ofValue, putT, put, nth, doCall, callV_func, List.nil_append, List.append_nil]
  refine opv_callf f24 (f34k z0 3 4 rfl s24 (by decide) f24) fun v25 h25 n25 hn25 f25 ⟨k25, hh⟩ => ?_
  rcases hh with ⟨q, _⟩ | ⟨w, hw, q, e25, s25⟩
  · exact absurd nk4 (q a4 (by unfold L3; simp))
  have ew : w = a4 := by
    rcases List.mem_cons.1 hw with q' | hw
    · rw [q'] at q; exact absurd q nk6
    · rcases List.mem_cons.1 hw with q' | q'
      · exact q'
      · rw [List.mem_singleton.1 q'] at q; exact absurd q nk5
  subst ew
  subst e25
  rw [nm4] at s25
  have r25 := r24.keep (k25 n1 rfl)
  simp only [core1, fgr, execOp, opd, ofValue, putT, put, nth, forgetL]
  rw [opv_alloc ti100 rfl]
  obtain ⟨H26, hH26⟩ : ∃ H26, H26 = upd h25 n25 (some (Blk.row (Cont.l ty100.i.zero.cells) 100)) := ⟨_, rfl⟩
  show Ops env 9 none _ _ _ _ _ (upd h25 n25 (some (Blk.row (Cont.l ty100.i.zero.cells) 100))) _
  rw [← hH26]
  have f26 : Free H26 (n25 + 1) := by rw [hH26]; exact f25.new
  have o26 : ∀ j, j ≠ n25 → H26 j = h25 j := fun j hj => by rw [hH26, upd_ne _ _ hj]
  have z26 : Row H26 n25 [.bool false, .nils, .nilf, .nils, .nilf] := by rw [hH26]; exact Row.new _ _ _ _
  clear hH26
  have n1lt := s25.k (j := n1) rfl
  have s26 := (s25.old (n' := n25 + 1) (by omega) (fun j hj => o26 j (by omega))).grow (n' := n25 + 1) (Nat.le_refl _) (Old.refl _ _)
  have r26 := r25.keep (o26 n1 (by omega))
  have zn : ∀ {h n}, Row h n25 [.bool false, .nils, .nilf, .nils, .nilf] → n25 < n → NoIx h n (.ptr n25 0) := fun hr hx => noIx_zero hr rfl hx
  simp only [core1, fgr, execOp, opd, putT, put, nth, forgetL]
  rw [opv_rd (ld _ _ r26)]
  simp only [core1, hkr, execOp, opd, opds, ofValue, putT, put, nth, doCall, callV_func, List.nil_append, List.append_nil]
  refine opv_callf f26 (f37r z0 3 1 rfl (noIx_nil H26 (n25 + 1)) f26) fun v27 h27 n27 hn27 f27 ⟨e27, o27⟩ => ?_
  subst e27
  have s27 := s26.old hn27 o27
  have r27 := r26.keep (o27 n1 (by omega))
  have z27 := z26.keep (o27 n25 (by omega))
  simp only [core1, execOp, opd, putT, put, nth, extract, getO, List.getElem?_cons_succ, List.getElem?_cons_zero]
  rw [opv_alloc ti31 rfl]
  simp only [core1, execOp, opd, putT, put, nth, cel]
  refine opv_hold (v := .agg (vcells noV .nils)) ti31 rfl rfl rfl f27 fun H28 r28 o28 f28 => ?_
  have s28 := s27.old (n' := n27 + 1) (by omega) (fun j hj => o28 j (by omega))
  have r28' : Row H28 n1 (pcells z0 3) := r27.keep (o28 n1 (by omega))
  have z28 := z27.keep (o28 n25 (by omega))
  simp only [core1, fgr, hkr, execOp, opd, opds, ofValue, putT, put, nth, forgetL, doCall, callV_func, bor, binInt, shiftB, intOp, List.getElem?_cons_succ, List.getElem?_cons_zero, List.nil_append, List.append_nil, decide_true, beq_self_eq_true]
  refine opv_same (f50k s28) ?_
  simp only [core1, hkr, execOp, opd, opds, ofValue, ops2, putT, put, nth, doCall, callV_func, bor, binInt, shiftB, intOp, doPick, branch, List.getElem?_cons_succ, List.getElem?_cons_zero, List.nil_append, List.append_nil, List.length_cons, List.length_nil, Nat.reduceAdd, Int.cast_ofNat_Int, decide_true, Nat.zero_add, beq_self_eq_true, nb0]
  refine opv_callf f28 (f33r noV .nils (noIx_nil _ _) f28) fun v29 h29 n29 hn29 f29_ ⟨e29, o29⟩ => ?_
  subst e29
  have r29 := r28'.keep (o29 n1 (by omega))
  have z29 := z28.keep (o29 n25 (by omega))
  simp only [core1, execOp, opd, ofValue, putT, put, nth, bor, binInt, shiftB, intOp, doPick, branch, List.getElem?_cons_succ, List.getElem?_cons_zero, decide_true, beq_self_eq_true]
  rw [opv_rd (ld _ _ r29)]
  simp only [core1, hkr, execOp, opd, opds, ofValue, ops2, putT, put, nth, doCall, callV_func, List.getElem?_cons_succ, List.getElem?_cons_zero, List.nil_append, List.append_nil, bz25]
  refine opv_callf f29_ (f36r (pcells z0 3) (z0.map u8) 0 1 (zn z29 (by omega)) f29_) fun v30 h30 n30 hn30 f30_ ⟨e30, o30⟩ => ?_
  subst e30
  have r30 := r29.keep (o30 n1 (by omega))
  have z30 := z29.keep (o30 n25 (by omega))
  simp only [core1, execOp, opd, ofValue, putT, put, nth, bor, binInt, shiftB, intOp, doPick, branch, List.getElem?_cons_succ, List.getElem?_cons_zero, decide_true, beq_self_eq_true]
  rw [opv_rd (ld _ _ r30)]
  simp only [core1, hkr, execOp, opd, opds, ofValue, putT, put, nth, doCall, callV_func, List.getElem?_cons_succ, List.getElem?_cons_zero, List.nil_append, List.append_nil]
  refine opv_callf f30_ (f38r (pcells z0 3) 0 (noIx_nil _ _) f30_) fun v31 h31 n31 hn31 f31_ ⟨e31, o31⟩ => ?_
  subst e31
  have r31 := r30.keep (o31 n1 (by omega))
  have z31_ := z30.keep (o31 n25 (by omega))
  simp only [core1, execOp, opd, ofValue, putT, put, nth, bor, binInt, shiftB, intOp, doPick, branch, List.getElem?_cons_succ, List.getElem?_cons_zero, decide_true, beq_self_eq_true]
  rw [opv_rd (ld _ _ r31)]
  simp only [core1, hkr, execOp, opd, opds, ofValue, putT, put, nth, doCall, callV_func, List.getElem?_cons_succ, List.getElem?_cons_zero, List.nil_append, List.append_nil]
  refine opv_callf f31_ (f34r (pcells z0 3) 0 (zn z31_ (by omega)) f31_) fun v32 h32 n32 hn32 f32_ ⟨e32, o32⟩ => ?_
  subst e32
  have r32 := r31.keep (o32 n1 (by omega))
  have z32_ := z31_.keep (o32 n25 (by omega))
  simp only [core1, execOp, opd, ofValue, putT, put, nth, bor, binInt, shiftB, intOp, unOp, doPick, branch, List.getElem?_cons_succ, List.getElem?_cons_zero, decide_true, Bool.not_false, beq_self_eq_true]
  rw [opv_rd (ld _ _ r32)]
  simp only [core1, hkr, execOp, opd, opds, putT, put, nth, doCall, callV_func, List.getElem?_cons_succ, List.getElem?_cons_zero, List.nil_append, List.append_nil]
  refine opv_callf f32_ (f49r z0 3 rfl (noIx_nil _ _) f32_) fun v33 h33 n33 hn33 f33_ ⟨e33, o33⟩ => ?_
  subst e33
  have z33_ := z32_.keep (o33 n25 (by omega))
  simp only [core1, hkr, execOp, opd, opds, ofValue, putT, put, nth, doCall, callV_func, builtin, one1, blr, List.getElem?_cons_succ, List.getElem?_cons_zero, List.nil_append, List.append_nil]
  refine opv_callf f33_ (f39r 0 (zn z33_ (by omega)) f33_) fun v34 h34 n34 hn34 f34_ ⟨e34, o34⟩ => ?_
  subst e34
  have z34_ := z33_.keep (o34 n25 (by omega))
  have w00 : IntKind.i64.wrap 0 = 0 := by decide
  simp only [core1, hkr, execOp, opd, opds, ofValue, putT, put, nth, doCall, callV_func, builtin, one1, blr, bor, binInt, shiftB, intOp, wrapI, List.getElem?_cons_succ, List.getElem?_cons_zero, List.nil_append, List.append_nil, Int.reduceAdd, decide_true, w00]
  refine opv_callf f34_ (f43r 0 (noIx_nil _ _) (.nils (h := h34)) f34_) fun v35 h35 n35 hn35 f35_ ⟨e35, o35⟩ => ?_
  subst e35
  have z35_ := z34_.keep (o35 n25 (by omega))
  simp only [core1, hkr, execOp, opd, opds, ofValue, putT, put, nth, doCall, callV_func, builtin, one1, blr, bor, binInt, shiftB, intOp, wrapI, List.getElem?_cons_succ, List.getElem?_cons_zero, List.nil_append, List.append_nil, Int.reduceAdd, decide_true, w00]
  refine opv_same (f44r 0 (zn z35_ (n := n35) (by omega))) ?_
  simp only [core1, hkr, execOp, opd, opds, putT, put, nth, doCall, callV_func, builtin, one1, blr, bor, binInt, shiftB, intOp, wrapI, List.getElem?_cons_succ, List.getElem?_cons_zero, List.nil_append, List.append_nil, Int.reduceAdd, decide_true, w00]
  refine opv_same (f32r (noIx_nil h35 n35)) ?_
  simp only [core1, hkr, execOp, opd, opds, putT, put, nth, doCall, callV_func, builtin, one1, blr, bor, binInt, shiftB, intOp, wrapI, List.getElem?_cons_succ, List.getElem?_cons_zero, List.nil_append, List.append_nil, Int.reduceAdd, decide_true, w00]
  refine opv_same (f50r (zn z35_ (n := n35) (by omega))) ?_
  simp only [core1, hkr, execOp, opd, opds, ofValue, putT, put, nth, doCall, callV_func, bor, binInt, shiftB, intOp, wrapI, doPick, branch, List.getElem?_cons_succ, List.getElem?_cons_zero, List.nil_append, List.append_nil, Int.reduceAdd, decide_true, beq_self_eq_true, w00]
  refine opv_same (f41r (noIx_nil h35 n35)) ?_
  simp only [core1, tyr, fgr, hkr, execOp, opd, opds, ofValue, putT, put, nth, forgetL, doCall, callV_func, und, bor, binOther, strK, aggK, doPick, branch, equalTop, equal, nilFn, nilPtr, boolOf, List.getElem?_cons_succ, List.getElem?_cons_zero, List.append_nil, Bool.and_true, Bool.or_true]
  refine opv_callf f35_ (f29 h35 n35 f35_) fun v36 h36 n36 hn36 f36_ ⟨e36, o36⟩ => ?_
  subst e36
  simp only [core1, fgr, execOp, opd, ofValue, putT, put, nth, forgetL, doPick, branch, List.getElem?_cons_succ, List.getElem?_cons_zero, and_self]
end Go.Am.Ytlgebaofkolkoaa
