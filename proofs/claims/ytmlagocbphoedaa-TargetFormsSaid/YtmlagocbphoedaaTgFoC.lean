/- The functions that the statement reaches, gone through. -/
import Derived.Test.YtmlagocbphoedaaTgFoB
set_option linter.unusedSimpArgs false
set_option linter.unusedVariables false
set_option linter.defProp false
set_option maxRecDepth 10000
namespace Go.Am.Ytmlagocbphoedaa
open Go Go.Am Go.Proofs
theorem loop12 (Q : Post0) (ks : List Kf) (v : AVal) (ns : List Nat) (N i2 i3 : Nat) (hl : ns.length ≤ maxLen) (d : i2 ≠ i3) (hN : N ≤ i2 ∧ N ≤ i3) (h0 : Hp) (hv : ∀ h, Old h0 h N → WsR h v ns) (hlt : ∀ j (hj : j < ns.length), ns[j] < b256)
    (hE : ∀ (h : Hp) (n : Nat) (x0 x5 x6 x7 x8 x9 x10 x11 x20 : AVal), Arr .u64 h i2 4 (fun _ => 0) → Arr .u64 h i3 4 (fun j => (wd (sumV ns 0) j : Nat)) → Old h0 h N → Kont env 12 none Q ks (.exit 0) (x0 :: AVal.junk :: .ptr i2 0 :: .ptr i3 0 :: AVal.junk :: x5 :: x6 :: x7 :: x8 :: x9 :: x10 :: x11 :: AVal.junk :: AVal.junk :: AVal.junk :: AVal.junk :: AVal.junk :: AVal.junk :: AVal.junk :: AVal.junk :: x20 :: AVal.junk :: AVal.junk :: AVal.junk :: AVal.junk :: AVal.junk :: []) h n)
    (hR : ∀ (h : Hp) (n : Nat) (x0 x3 x5 x6 x7 x8 x9 x10 x11 x20 : AVal), Arr .u64 h i2 4 (fun j => (wd (sumV ns 0) j : Nat)) → Old h0 h N → Kont env 12 none Q ks .ret (x0 :: AVal.junk :: .ptr i2 0 :: x3 :: AVal.junk :: x5 :: x6 :: x7 :: x8 :: x9 :: x10 :: x11 :: AVal.junk :: AVal.junk :: AVal.junk :: AVal.junk :: AVal.junk :: AVal.junk :: AVal.junk :: AVal.junk :: x20 :: AVal.junk :: AVal.junk :: AVal.junk :: AVal.junk :: AVal.junk :: []) h n) :
    ∀ (k i s : Nat) (h : Hp) (n : Nat) (x0 x5 x6 x7 x11 x20 : AVal), i + k = ns.length → s < b256 → sumV ns 0 = sumV (ns.drop i) s → Arr .u64 h i2 4 (fun _ => 0) → Arr .u64 h i3 4 (fun j => (wd s j : Nat)) → i2 < n → i3 < n → Free h n → Old h0 h N →
    Run env 12 none Q (.loop lp12_0) ks (x0 :: AVal.junk :: .ptr i2 0 :: .ptr i3 0 :: AVal.junk :: x5 :: x6 :: x7 :: v :: .int .i64 (ns.length : Nat) :: .int .i64 (i : Nat) :: x11 :: AVal.junk :: AVal.junk :: AVal.junk :: AVal.junk :: AVal.junk :: AVal.junk :: AVal.junk :: AVal.junk :: x20 :: AVal.junk :: AVal.junk :: AVal.junk :: AVal.junk :: AVal.junk :: []) h n := by
  have hml : maxLen = 9223372036854775807 := rfl
  intro k
  induction k with
  | zero =>
    intro i s h n x0 x5 x6 x7 x11 x20 hi hs he a2 a3 b2 b3 hf ho
    have : i = ns.length := by omega
    subst this
    rw [List.drop_length, sumV] at he
    have hc : ¬ ((ns.length : Nat) : Int) < ((ns.length : Nat) : Int) := by omega
    rw [run_loop]
    simp only [lp12_0, loopsOf, Try.f12, Option.getD_some, core1, fgr, execOp, opd, putT, put, nth, forgetL, bor, binInt, shiftB, intOp, List.nil_append, List.append_nil, decide_true, decide_false, List.getD_cons_zero, hc]
    exact hE h n _ _ _ _ _ _ _ _ _ a2 (a3.ext fun j hj => by rw [he]) ho
  | succ k ih =>
    intro i s h n x0 x5 x6 x7 x11 x20 hi hs he a2 a3 b2 b3 hf ho
    have h1 : i < ns.length := by omega
    have hc : ((i : Nat) : Int) < ((ns.length : Nat) : Int) := by omega
    have hw : IntKind.i64.wrap (((i : Nat) : Int) + 1) = ((i + 1 : Nat) : Int) := by rw [w64 (by omega) (by omega)]; omega
    obtain ⟨p, ids, r1, r2⟩ := (hv h ho).at_ i h1
    have hxi := hlt i h1
    rw [List.drop_eq_getElem_cons h1, sumV] at he
    rw [run_loop]
    simp only [lp12_0, loopsOf, Try.f12, Option.getD_some, core1, fgr, execOp, opd, putT, put, nth, forgetL, bor, binInt, shiftB, intOp, List.nil_append, List.append_nil, decide_true, List.getD_cons_zero, hc]
    rw [opv_rd (r1 _ _)]
    simp only [core1, execOp, opd, putT, put, nth]
    rw [opv_rd (r2 _), words]
    simp only [core1, tyr, execOp, opd, putT, put, nth, zeroOf, cel, alloc, doAlloc, newRow]
    refine opv_all4 (arr_0 (upd_same _ _ _)) ti25 rfl fun b5 k5 => ?_
    have k5 := pick_wd k5
    have s5 : ∀ j, j < n → (upd (upd h n (some (Blk.row (Cont.l [AVal.int IntKind.u64 0, AVal.int IntKind.u64 0, AVal.int IntKind.u64 0, AVal.int IntKind.u64 0]) 25))) n (some b5)) j = h j := fun j hj => by rw [upd_ne _ _ (by omega), upd_ne _ _ (by omega)]
    have f5 : Free (upd (upd h n (some (Blk.row (Cont.l [AVal.int IntKind.u64 0, AVal.int IntKind.u64 0, AVal.int IntKind.u64 0, AVal.int IntKind.u64 0]) 25))) n (some b5)) (n + 1) := hf.new.upd (by omega)
    generalize upd (upd h n (some (Blk.row (Cont.l [AVal.int IntKind.u64 0, AVal.int IntKind.u64 0, AVal.int IntKind.u64 0, AVal.int IntKind.u64 0]) 25))) n (some b5) = H5 at *
    have a3 := a3.keep (s5 _ b3)
    have a2 := a2.keep (s5 _ b2)
    simp only [core1, fgr, execOp, opd, putT, nth, forgetL]
    rw [opv_rd (a3.all ti25 rfl rfl), range4]
    simp only [core1, execOp, opd, putT, put, nth]
    rw [opv_rd (k5.all ti25 rfl rfl), range4]
    simp only [core1, hkr, execOp, opd, opds, putT, put, nth, doCall, callV_func, List.nil_append, List.append_nil]
    refine opv_callf f5 (f27 s ns[i] H5 (n + 1) hs hxi f5) fun v6 H6 n6 hn6 f6 ⟨e6, o6⟩ => ?_
    subst e6
    have a3 := a3.keep (o6 _ (by omega))
    have a2 := a2.keep (o6 _ (by omega))
    simp only [core1, tyr, execOp, opd, putT, put, nth, zeroOf, cel, alloc, doAlloc, newRow, extract, getO, List.getElem?_cons_succ, List.getElem?_cons_zero, W]
    refine opv_all4 (arr_0 (upd_same _ _ _)) ti25 rfl fun b7 k7 => ?_
    have k7 := pick_wd k7
    have s7 : ∀ j, j < n6 → (upd (upd H6 n6 (some (Blk.row (Cont.l [AVal.int IntKind.u64 0, AVal.int IntKind.u64 0, AVal.int IntKind.u64 0, AVal.int IntKind.u64 0]) 25))) n6 (some b7)) j = H6 j := fun j hj => by rw [upd_ne _ _ (by omega), upd_ne _ _ (by omega)]
    have f7 : Free (upd (upd H6 n6 (some (Blk.row (Cont.l [AVal.int IntKind.u64 0, AVal.int IntKind.u64 0, AVal.int IntKind.u64 0, AVal.int IntKind.u64 0]) 25))) n6 (some b7)) (n6 + 1) := f6.new.upd (by omega)
    generalize upd (upd H6 n6 (some (Blk.row (Cont.l [AVal.int IntKind.u64 0, AVal.int IntKind.u64 0, AVal.int IntKind.u64 0, AVal.int IntKind.u64 0]) 25))) n6 (some b7) = H7 at *
    have a3 := a3.keep (s7 _ (by omega))
    have a2 := a2.keep (s7 _ (by omega))
    have ho7 : Old h0 H7 N := fun j hj => by rw [s7 j (by omega), o6 j (by omega), s5 j (by omega)]; exact ho j hj
    by_cases c : b256 ≤ s + ns[i]
    · have cd := decide_eq_true c
      rw [if_pos c] at he
      simp only [core1, tyr, fgr, hkr, execOp, opd, opds, ops2, putT, put, nth, forgetL, doCall, callV_func, sizeOf, cel, getO, List.nil_append, List.append_nil, build, fill, cd]
      refine opv_callf f7 (f38 0 H7 _ (by decide) f7) fun v8 H8 n8 hn8 f8 ⟨e8, o8⟩ => ?_
      subst e8
      simp only [core1, execOp, opd, putT, put, nth, W]
      refine opv_all4 (a2.keep (o8 _ (by omega))) ti25 rfl fun b9 k9 => ?_
      have k9 := pick_wd k9
      simp only [core1, fgr, putT, forgetL]
      refine hR _ _ _ _ _ _ _ _ _ _ _ _ (k9.ext fun j hj => by rw [he]; rfl) (fun j hj => ?_)
      rw [upd_ne _ _ (by omega), o8 j (by omega)]; exact ho7 j hj
    · have cd := decide_eq_false c
      rw [if_neg c] at he
      rw [Nat.mod_eq_of_lt (by omega)] at k7
      simp only [core1, fgr, execOp, opd, putT, put, nth, forgetL, cd]
      rw [opv_rd (k7.all ti25 rfl rfl), range4]
      simp only [core1, execOp, opd, putT, put, nth]
      refine opv_all4 a3 ti25 rfl fun b8 k8 => ?_
      have k8 := pick_wd k8
      simp only [core1, fgr, execOp, opd, ofValue, putT, put, nth, forgetL, bor, binInt, shiftB, intOp, wrapI, decide_true, hw]
      refine ih (i + 1) (s + ns[i]) _ _ _ _ _ _ _ _ (by omega) (by omega) he (a2.upd d) k8 (by omega) (by omega) (f7.upd (by omega)) (fun j hj => ?_)
      rw [upd_ne _ _ (by omega)]; exact ho7 j hj
theorem f12 (v : AVal) (ns : List Nat) (h : Hp) (n : Nat) (hl : ns.length ≤ maxLen) (hv : ∀ h', Old h h' n → WsR h' v ns) (hf : Free h n) : Wp (callI env (evalW env) 12 [v]) h n fun v' h' n' => v' = W (sumV ns 0) ∧ Old h h' n := by
  refine wp_callI ff12 fi12 ?_
  simp only [fu12, Try.f12, Option.getD_some, List.replicate, core1, tyr, fgr, execOp, opd, opds, ofValue, putT, put, nth, forgetL, doCall, builtin, one1, zeroOf, cel, alloc, doAlloc, newRow, ended, resultOf, oneOrTup, List.cons_append, List.nil_append, List.length_cons, List.length_nil, Nat.reduceSub, Nat.zero_add, (hv h (Old.refl _ _)).len]
  refine loop12 _ _ v ns n n (n + 1) hl (by omega) (by omega) h hv (hv h (Old.refl _ _)).lt ?_ ?_ ns.length 0 0 _ (n + 1 + 1) _ _ _ _ _ _ (Nat.zero_add _) (by decide) rfl (arr_0 (by rw [upd_ne _ _ (by omega)]; exact upd_same _ _ _)) ((arr_0 (upd_same _ _ _)).ext fun j hj => by unfold wd; simp) (by omega) (by omega) hf.new.new (fun j hj => by rw [upd_ne _ _ (by omega), upd_ne _ _ (by omega)])
  · intro h' n' x0 x5 x6 x7 x8 x9 x10 x11 x20 a2 a3 ho
    simp only [core1, execOp, opd, nth]
    rw [opv_rd (a3.all ti25 rfl rfl), range4]
    simp only [core1, execOp, opd, putT, put, nth]
    refine opv_all4 a2 ti25 rfl fun bb hbb => ?_
    simp only [core1, fgr, putT, nth, forgetL, true_and, wp_pure, wp_det (hbb.all ti25 rfl rfl).wp, range4, pick4]
    exact ⟨rfl, fun j hj => by rw [upd_ne _ _ (by omega)]; exact ho j hj⟩
  · intro h' n' x0 x3 x5 x6 x7 x8 x9 x10 x11 x20 a2 ho
    simp only [core1, nth, true_and, wp_pure, wp_rd (a2.all ti25 rfl rfl), range4]
    exact ⟨rfl, ho⟩
/- Sums of any works, and any number scaled, or the error, are the document's; works stay. -/
theorem arg_w {vs : List AVal} (ha : Arg Try.prog 25 vs) : ∃ a, a < b256 ∧ vs = words a := by
  have hc25 : Try.prog.cellsOf 25 = 4 := by kernel_rfl
  have hc23 : Try.prog.cellsOf 23 = 1 := by kernel_rfl
  have hl := (ha.array_inv Try.underlying25).1
  rw [hc25] at hl
  have e1 : vs = cut (fun j => vs.getD j .junk) 0 4 := by
    match vs, hl with
    | [a, b, c, d], _ => rfl
  have e2 : vs = cellsOf (fun j => vs.getD j .junk) 0 4 := by
    match vs, hl with
    | [a, b, c, d], _ => rfl
  rw [e1] at ha
  obtain ⟨a, h1, h2⟩ := words_of (f := fun j => vs.getD j .junk) (o := 0) Try.underlying25 Try.underlying23 hc25 hc23 ha
  exact ⟨a, h1, by rw [e2]; exact h2⟩
/- A number's bytes: the program's and the document's. -/
theorem t86 : und env 86 = M.pure (.slice 5) := rfl
theorem s5 : sizeOf env 5 = M.pure 1 := rfl
def byN (a i : Nat) : Nat := a / 2 ^ (8 * i) % 256
theorem byte_wd (a i : Nat) : wd a (i / 8) / 2 ^ (i % 8 * 8) % 256 = byN a i := by
  have hs : i % 8 < 8 := Nat.mod_lt _ (by decide)
  unfold wd byN
  rw [← pow_split (i % 8 * 8) (by omega), Nat.mul_comm (2 ^ (64 - i % 8 * 8))]
  rw [Nat.mod_mul_right_div_self, Nat.mod_mod_of_dvd _ (show 256 ∣ 2 ^ (64 - i % 8 * 8) from ⟨2 ^ (56 - i % 8 * 8), by rw [show (256 : Nat) = 2 ^ 8 from rfl, ← Nat.pow_add]; congr 1; omega⟩)]
  rw [Nat.div_div_eq_div_mul, ← Nat.pow_add]
  congr 3
  omega
theorem byN_lt (a i : Nat) : byN a i < 256 := Nat.mod_lt _ (by decide)
/-- A number's bytes, in memory that was just made. -/
structure NewY (h : Hp) (n : Nat) (v : AVal) (a : Nat) (h' : Hp) (n' : Nat) (id : Nat) : Prop where
  eq : v = .sl id 0 32 (some 32) 1
  ge : n ≤ id
  lt : id < n'
  nums : Nums .u8 h' v id 0 32 32 (fun j => (byN a j : Nat))
  old : Old h h' n
theorem u8wrap (m : Nat) : IntKind.u8.wrap (m : Int) = ((m % 256 : Nat) : Int) := by
  have h1 : IntKind.u8.wrap (m : Int) = (m : Int) % 256 := rfl
  rw [h1]; omega
theorem loop67 (Q : Post0) (ks : List Kf) (a i1 i3 n : Nat) (v y2 : AVal) (d1 : i1 ≠ i3) (b3 : i3 < n) (h0 : Hp)
    (hq : ∀ (h : Hp) (x0 x4 x7 x8 x9 : AVal), Nums .u8 h v i3 0 32 32 (fun j => (byN a j : Nat)) → (∀ j, j ≠ i3 → h j = h0 j) → Kont env 67 none Q ks (.exit 0) (x0 :: .ptr i1 0 :: y2 :: v :: x4 :: AVal.junk :: AVal.junk :: x7 :: x8 :: x9 :: AVal.junk :: AVal.junk :: AVal.junk :: AVal.junk :: AVal.junk :: AVal.junk :: AVal.junk :: AVal.junk :: AVal.junk :: AVal.junk :: AVal.junk :: AVal.junk :: AVal.junk :: AVal.junk :: AVal.junk :: []) h n) :
    ∀ (k i : Nat) (h : Hp) (x0 x4 x9 : AVal), i + k = 32 → Arr .u64 h i1 4 (fun j => (wd a j : Nat)) → Nums .u8 h v i3 0 32 32 (fun j => if j < i then (byN a j : Nat) else 0) → (∀ j, j ≠ i3 → h j = h0 j) →
    Run env 67 none Q (.loop lp67_0) ks (x0 :: .ptr i1 0 :: y2 :: v :: x4 :: AVal.junk :: AVal.junk :: .int .i64 32 :: .int .i64 (i : Nat) :: x9 :: AVal.junk :: AVal.junk :: AVal.junk :: AVal.junk :: AVal.junk :: AVal.junk :: AVal.junk :: AVal.junk :: AVal.junk :: AVal.junk :: AVal.junk :: AVal.junk :: AVal.junk :: AVal.junk :: AVal.junk :: []) h n := by
  intro k
  induction k with
  | zero =>
    intro i h x0 x4 x9 hi ha hv hk
    have : i = 32 := by omega
    subst this
    have hc : ¬ ((32 : Nat) : Int) < 32 := by decide
    rw [run_loop]
    simp only [lp67_0, loopsOf, Try.f67, Option.getD_some, core1, fgr, execOp, opd, putT, put, nth, forgetL, bor, binInt, shiftB, intOp, List.nil_append, List.append_nil, Int.cast_ofNat_Int, Int.reduceLT, decide_true, decide_false, List.getD_cons_zero]
    exact hq h _ _ _ _ _ (hv.ext fun j hj => if_pos hj) hk
  | succ k ih =>
    intro i h x0 x4 x9 hi ha hv hk
    have h4 : i < 32 := by omega
    have hc : ((i : Nat) : Int) < 32 := by omega
    have hw : IntKind.i64.wrap (((i : Nat) : Int) + 1) = ((i + 1 : Nat) : Int) := by rw [w64 (by omega) (by omega)]; omega
    have q1 : IntKind.i64.wrap (Int.tdiv ((i : Nat) : Int) 8) = ((i / 8 : Nat) : Int) := by rw [Int.tdiv_eq_ediv_of_nonneg (by omega), w64 (by omega) (by omega)]; omega
    have q2 : IntKind.i64.wrap (Int.tmod ((i : Nat) : Int) 8 * 8) = ((i % 8 * 8 : Nat) : Int) := by rw [Int.tmod_eq_emod_of_nonneg (by omega), w64 (by omega) (by omega)]; omega
    have h64 : i / 8 < 4 := by omega
    have h0r : (0 : Int) ≤ ((i % 8 * 8 : Nat) : Int) := by omega
    rw [run_loop]
    simp only [lp67_0, loopsOf, Try.f67, Option.getD_some, core1, fgr, execOp, opd, ofValue, putT, put, nth, forgetL, bor, binInt, shiftB, intOp, wrapI, List.nil_append, List.append_nil, Int.reduceNe, decide_true, true_and, List.getD_cons_zero, hc, q1]
    rw [opv_rd (arr_idx t25 s23 rfl h64)]
    simp only [core1, execOp, opd, putT, put, nth]
    rw [opv_rd (ha.load ti23 rfl h64)]
    simp only [core1, tyr, execOp, opd, ofValue, putT, put, nth, und, lenOf, bor, binInt, shiftB, shiftOp, intOp, wrapI, strK, intK, Int.reduceNe, decide_true, true_and, convert, convStr, isU8, q2, h0r, ushr _ (i % 8 * 8) (by omega), u8wrap, byte_wd]
    rw [opv_rd (hv.idx0 t86 s5 rfl h4)]
    simp only [core1, execOp, opd, putT, put, nth]
    refine hv.store0 ti5 rfl h4 fun b hb => ?_
    simp only [core1, fgr, execOp, opd, ofValue, putT, put, nth, forgetL, bor, binInt, shiftB, intOp, wrapI, decide_true, hw]
    refine ih (i + 1) _ _ _ _ (by omega) (ha.upd d1) (hb.ext fun j hj => ?_) (fun j hj => by rw [upd_ne _ _ hj]; exact hk j hj)
    by_cases e : j = i
    · subst e
      simp only [if_pos (Nat.lt_succ_self j), ↓reduceIte]
    · by_cases e2 : j < i
      · simp only [if_neg e, if_pos e2, if_pos (show j < i + 1 by omega)]
      · simp only [if_neg e, if_neg e2, if_neg (show ¬ j < i + 1 by omega)]
theorem f67 (a : Nat) (h : Hp) (n : Nat) : Wp (callI env (evalW env) 67 [W a]) h n fun v' h' n' => ∃ id, NewY h n v' a h' n' id := by
  refine wp_callI ff67 fi67 ?_
  simp (disch := omega) only [fu67, Try.f67, Option.getD_some, List.replicate, core1, tyr, fgr, execOp, opd, ofValue, putT, put, nth, forgetL, cel, alloc, newRow, ended, resultOf, oneOrTup, List.cons_append, List.nil_append, List.length_cons, List.length_nil, Nat.reduceSub, Nat.zero_add, wp_pure, List.length_cons, List.length_nil, W]
  refine nums_make (m := 32) rfl t86 ti5 rfl rfl (by decide) (by decide) fun hv => ?_
  simp only [core1, fgr, execOp, opd, opds, ofValue, putT, put, nth, forgetL, doCall, builtin, one1, Int.cast_ofNat_Int, hv.len t86]
  refine loop67 _ _ a n (n + 1) (n + 1 + 1) _ _ (by omega) (by omega) _ ?_ 32 0 _ _ _ _ rfl (arr_W (by rw [upd_ne _ _ (by omega)]; exact upd_same _ _ _)) (hv.ext fun j hj => by simp) (fun _ _ => rfl)
  intro h' x0 x4 x7 x8 x9 hv hk
  simp only [core1, fgr, execOp, opd, putT, put, nth, forgetL, true_and]
  refine ⟨n + 1, rfl, by omega, by omega, hv, fun j hj => ?_⟩
  rw [hk j (by omega)]
  simp (disch := omega) only [upd_ne]
/-- .. bit by bit. -/
def bpart (a i j : Nat) : Nat := a / 2 ^ (8 * j) % 2 ^ min 8 (i - 8 * j)
theorem bpart_zero (a j : Nat) : bpart a 0 j = 0 := by
  unfold bpart
  rw [show min 8 (0 - 8 * j) = 0 by omega]; exact Nat.mod_one _
theorem bpart_all (a j : Nat) (hj : j < 32) : bpart a 256 j = byN a j := by
  unfold bpart byN
  rw [show min 8 (256 - 8 * j) = 8 by omega]
theorem bpart_step (a i j : Nat) : bpart a (i + 1) j = if j = i / 8 then bpart a i j + (a / 2 ^ i % 2) * 2 ^ (i % 8) else bpart a i j := by
  unfold bpart
  by_cases h : j = i / 8
  · subst h
    rw [if_pos rfl, show min 8 (i + 1 - 8 * (i / 8)) = i % 8 + 1 by omega, show min 8 (i - 8 * (i / 8)) = i % 8 by omega, mod_succ_bit, Nat.div_div_eq_div_mul, ← Nat.pow_add, show 8 * (i / 8) + i % 8 = i by omega, Nat.mul_comm (2 ^ (i % 8))]
  · rw [if_neg h]
    by_cases h2 : j < i / 8
    · rw [show min 8 (i + 1 - 8 * j) = min 8 (i - 8 * j) by omega]
    · rw [show min 8 (i + 1 - 8 * j) = min 8 (i - 8 * j) by omega]
theorem bpart_lt (a i : Nat) : bpart a i (i / 8) < 2 ^ (i % 8) := by
  unfold bpart
  rw [show min 8 (i - 8 * (i / 8)) = i % 8 by omega]
  exact Nat.mod_lt _ (Nat.two_pow_pos _)
theorem loop53 (Q : Post0) (ks : List Kf) (a i3 i4 n : Nat) (v3 v4 y1 y2 : AVal) (d1 : i3 ≠ i4) (b4 : i4 < n) (h0 : Hp)
    (hq : ∀ (h : Hp) (x0 x5 x10 x17 : AVal), Nums .u8 h v4 i4 0 32 32 (fun j => (byN a j : Nat)) → (∀ j, j ≠ i4 → h j = h0 j) → Kont env 53 none Q ks (.exit 0) (x0 :: y1 :: y2 :: v3 :: v4 :: x5 :: AVal.junk :: AVal.junk :: AVal.junk :: AVal.junk :: x10 :: AVal.junk :: AVal.junk :: AVal.junk :: AVal.junk :: AVal.junk :: AVal.junk :: x17 :: AVal.junk :: AVal.junk :: AVal.junk :: AVal.junk :: AVal.junk :: AVal.junk :: AVal.junk :: AVal.junk :: AVal.junk :: AVal.junk :: AVal.junk :: AVal.junk :: AVal.junk :: AVal.junk :: AVal.junk :: []) h n) :
    ∀ (k i : Nat) (h : Hp) (x0 x10 x17 : AVal), i + k = 256 → Nums .i64 h v3 i3 0 256 256 (bit a) → Nums .u8 h v4 i4 0 32 32 (fun j => (bpart a i j : Nat)) → (∀ j, j ≠ i4 → h j = h0 j) →
    Run env 53 none Q (.loop lp53_0) ks (x0 :: y1 :: y2 :: v3 :: v4 :: .int .i64 (i : Nat) :: AVal.junk :: AVal.junk :: AVal.junk :: AVal.junk :: x10 :: AVal.junk :: AVal.junk :: AVal.junk :: AVal.junk :: AVal.junk :: AVal.junk :: x17 :: AVal.junk :: AVal.junk :: AVal.junk :: AVal.junk :: AVal.junk :: AVal.junk :: AVal.junk :: AVal.junk :: AVal.junk :: AVal.junk :: AVal.junk :: AVal.junk :: AVal.junk :: AVal.junk :: AVal.junk :: []) h n := by
  intro k
  induction k with
  | zero =>
    intro i h x0 x10 x17 hi ha hv hk
    have : i = 256 := by omega
    subst this
    have hc : ¬ ((256 : Nat) : Int) < 256 := by decide
    rw [run_loop]
    simp only [lp53_0, loopsOf, Try.f53, Option.getD_some, core1, fgr, execOp, opd, ofValue, putT, put, nth, forgetL, bor, binInt, shiftB, intOp, List.nil_append, List.append_nil, Int.cast_ofNat_Int, Int.reduceLT, decide_true, decide_false, List.getD_cons_zero]
    exact hq h _ _ _ _ (hv.ext fun j hj => by rw [bpart_all a j hj]) hk
  | succ k ih =>
    intro i h x0 x10 x17 hi ha hv hk
    have h4 : i < 256 := by omega
    have hc : ((i : Nat) : Int) < 256 := by omega
    have hw : IntKind.i64.wrap (((i : Nat) : Int) + 1) = ((i + 1 : Nat) : Int) := by rw [w64 (by omega) (by omega)]; omega
    have q1 : IntKind.i64.wrap (Int.tdiv ((i : Nat) : Int) 8) = ((i / 8 : Nat) : Int) := by rw [Int.tdiv_eq_ediv_of_nonneg (by omega), w64 (by omega) (by omega)]; omega
    have q2 : IntKind.u64.wrap (Int.tmod ((i : Nat) : Int) 8) = ((i % 8 : Nat) : Int) := by rw [Int.tmod_eq_emod_of_nonneg (by omega), wu64 (by omega) (by omega)]; omega
    have h64 : i / 8 < 32 := by omega
    have hr8 : i % 8 < 8 := Nat.mod_lt _ (by decide)
    have h0r : (0 : Int) ≤ ((i % 8 : Nat) : Int) := by omega
    have pl : 2 ^ (i % 8) ≤ 2 ^ 7 := Nat.pow_le_pow_right (by decide) (by omega)
    have pt := bpart_lt a i
    have step : ∀ z : Nat, bit a i = (z : Nat) → ∀ j, bpart a (i + 1) j = if j = i / 8 then bpart a i (i / 8) + z * 2 ^ (i % 8) else bpart a i j := fun z hz j => by
      have : a / 2 ^ i % 2 = z := Int.ofNat.inj hz
      rw [bpart_step, this]
      split
      · rename_i e; rw [e]
      · rfl
    rw [run_loop]
    simp only [lp53_0, loopsOf, Try.f53, Option.getD_some, core1, fgr, execOp, opd, ofValue, putT, put, nth, forgetL, bor, binInt, shiftB, intOp, List.nil_append, List.append_nil, decide_true, List.getD_cons_zero, hc]
    rw [opv_rd (ha.idx0 t78 s3 rfl h4)]
    simp only [core1, execOp, opd, putT, put, nth]
    rw [opv_rd (ha.load0 ti3 rfl h4)]
    rcases bit_lt a i with b | b
    · simp only [core1, fgr, execOp, opd, ofValue, putT, put, nth, forgetL, bor, binInt, shiftB, intOp, wrapI, Int.reduceLT, gt_iff_lt, decide_true, decide_false, b, hw]
      refine ih (i + 1) _ _ _ _ (by omega) ha (hv.ext fun j hj => ?_) hk
      rw [step 0 b, Nat.zero_mul, Nat.add_zero]
      split
      · rename_i e; rw [e]
      · rfl
    · have sh : IntKind.u8.wrap ((1 : Int) * 2 ^ (min ((i % 8 : Nat) : Int).toNat IntKind.u8.bits)) = ((2 ^ (i % 8) : Nat) : Int) := by
        rw [Int.one_mul, show min ((i % 8 : Nat) : Int).toNat IntKind.u8.bits = i % 8 by show min (((i % 8 : Nat) : Int).toNat) 8 = _; omega]
        rw [show (2 : Int) ^ (i % 8) = ((2 ^ (i % 8) : Nat) : Int) by simp, u8wrap, Nat.mod_eq_of_lt (by omega)]
      have ad : IntKind.u8.wrap (((bpart a i (i / 8) : Nat) : Int) + ((2 ^ (i % 8) : Nat) : Int)) = ((bpart a i (i / 8) + 2 ^ (i % 8) : Nat) : Int) := by
        rw [← Int.natCast_add, u8wrap, Nat.mod_eq_of_lt (by omega)]
      simp only [core1, fgr, execOp, opd, ofValue, putT, put, nth, forgetL, bor, binInt, shiftB, intOp, wrapI, Int.reduceLT, Int.reduceNe, gt_iff_lt, decide_true, true_and, b, q1]
      rw [opv_rd (hv.idx0 t86 s5 rfl h64)]
      simp only [core1, execOp, opd, putT, put, nth]
      rw [opv_rd (hv.load0 ti5 rfl h64)]
      simp only [core1, tyr, execOp, opd, ofValue, putT, put, nth, und, lenOf, bor, binInt, shiftB, shiftOp, intOp, wrapI, strK, intK, Int.reduceNe, decide_true, true_and, convert, convStr, isU8, q2, h0r, sh, ad]
      rw [opv_rd (hv.idx0 t86 s5 rfl h64)]
      simp only [core1, execOp, opd, putT, put, nth]
      refine hv.store0 ti5 rfl h64 fun bb hb => ?_
      simp only [core1, fgr, execOp, opd, ofValue, putT, put, nth, forgetL, bor, binInt, shiftB, intOp, wrapI, decide_true, hw]
      refine ih (i + 1) _ _ _ _ (by omega) (ha.upd d1) (hb.ext fun j hj => ?_) (fun j hj => by rw [upd_ne _ _ hj]; exact hk j hj)
      rw [step 1 b, Nat.one_mul]
      split <;> rfl
theorem f53 (a : Nat) (h : Hp) (n : Nat) (hf : Free h n) : Wp (callI env (evalW env) 53 [W a]) h n fun v' h' n' => ∃ id, NewY h n v' a h' n' id := by
  refine wp_callI ff53 fi53 ?_
  simp (disch := omega) only [fu53, Try.f53, Option.getD_some, List.replicate, core1, tyr, fgr, hkr, execOp, opd, opds, ofValue, putT, put, nth, forgetL, doCall, callV_func, readCells, cellsOf, aggB, cel, alloc, newRow, ended, resultOf, oneOrTup, rowK, List.cons_append, List.nil_append, List.append_nil, List.length_cons, List.length_nil, Nat.reduceAdd, Nat.reduceSub, true_and, Nat.zero_add, wp_pure, memr, List.take_succ_cons, List.take_zero, List.drop_zero, Nat.ble, Cont.size, Cont.sub, upd_same, Option.some.injEq, exists_eq_left', true_and, List.length_cons, List.length_nil, W]
  refine opv_callf hf.new (f44 a _ _) fun v1 h1 n1 hn1 f1 ⟨b1, g1, o1⟩ => ?_
  obtain ⟨i3, l3, e3, nu⟩ := b1.nums
  have hk : ∃ id m cap, v1 = .sl id 0 m cap 1 := by obtain ⟨id, _, e, _⟩ := b1; exact ⟨id, _, _, e⟩
  obtain ⟨_, _, _, rfl⟩ := hk
  simp only [core1, fgr, execOp, opd, ofValue, putT, put, nth, forgetL]
  refine nums_make (m := 32) rfl t86 ti5 rfl rfl (by decide) (by decide) fun hv => ?_
  simp only [core1, fgr, execOp, opd, ofValue, putT, put, nth, forgetL]
  refine loop53 _ _ a i3 n1 (n1 + 1) _ _ _ _ (by omega) (by omega) _ ?_ 256 0 _ _ _ _ rfl (nu.upd (by omega)) (hv.ext fun j hj => by rw [bpart_zero]; rfl) (fun _ _ => rfl)
  intro h' x0 x5 x10 x17 hv hk
  simp only [core1, fgr, execOp, opd, putT, put, nth, forgetL, true_and]
  refine ⟨n1, rfl, by omega, by omega, hv, fun j hj => ?_⟩
  rw [hk j (by omega), upd_ne _ _ (by omega), o1 j (by omega), upd_ne _ _ (by omega)]
/- How many bytes a number has; its compact form, in numbers; 32 bits. -/
theorem wrap32 (m : Nat) : IntKind.u32.wrap (m : Int) = ((m % 4294967296 : Nat) : Int) := by
  have h1 : IntKind.u32.wrap (m : Int) = (m : Int) % 4294967296 := rfl
  rw [h1]; omega
theorem bv32 {x : Nat} (hx : x < 4294967296) : (BitVec.ofInt IntKind.u32.bits (x : Int)).toNat = x := by
  have h0 : IntKind.u32.bits = 32 := rfl
  rw [BitVec.toNat_ofInt, h0]
  have : (((x : Nat) : Int) % ((2 ^ 32 : Nat) : Int)) = ((x : Nat) : Int) := by omega
  rw [this]; rfl
theorem or32 {x y : Nat} (hx : x < 4294967296) (hy : y < 4294967296) : IntKind.u32.wrap ((BitVec.ofInt IntKind.u32.bits (x : Int) ||| BitVec.ofInt IntKind.u32.bits (y : Int)).toNat : Int) = ((x ||| y : Nat) : Int) := by
  rw [BitVec.toNat_or, bv32 hx, bv32 hy, wrap32, Nat.mod_eq_of_lt]
  exact Nat.or_lt_two_pow (n := 32) hx hy
theorem shl32 (x s : Nat) (hs : s ≤ 32) : IntKind.u32.wrap ((x : Int) * 2 ^ (min ((s : Nat) : Int).toNat IntKind.u32.bits)) = ((x * 2 ^ s % 4294967296 : Nat) : Int) := by
  rw [show min ((s : Nat) : Int).toNat IntKind.u32.bits = s by show min (((s : Nat) : Int).toNat) 32 = s; omega]
  rw [show (2 : Int) ^ s = ((2 ^ s : Nat) : Int) by simp, ← Int.natCast_mul, wrap32]
theorem shr32 (x s : Nat) (hs : s ≤ 32) : Int.fdiv (x : Int) (2 ^ (min ((s : Nat) : Int).toNat IntKind.u32.bits)) = ((x / 2 ^ s : Nat) : Int) := by
  rw [Int.toNat_natCast, show min s IntKind.u32.bits = s from Nat.min_eq_left hs, Int.fdiv_eq_ediv_of_nonneg _ (by exact_mod_cast Nat.zero_le _)]
  norm_cast
/-- A number has s bytes. -/
def isSz (a s : Nat) : Prop := a < 2 ^ (8 * s) ∧ (s = 0 ∨ 2 ^ (8 * (s - 1)) ≤ a)
theorem isSz.zero {a s m : Nat} (hs : isSz a s) : a / 2 ^ (8 * m) = 0 ↔ s ≤ m := by
  rw [Nat.div_eq_zero_iff_lt (Nat.two_pow_pos _)]
  refine ⟨fun h => ?_, fun h => Nat.lt_of_lt_of_le hs.1 (Nat.pow_le_pow_right (by decide) (by omega))⟩
  rcases hs.2 with h0 | h0
  · omega
  · by_cases q : s ≤ m
    · exact q
    · have : 2 ^ (8 * m) ≤ 2 ^ (8 * (s - 1)) := Nat.pow_le_pow_right (by decide) (by omega)
      omega
theorem isSz.lt {a s m : Nat} (hs : isSz a s) : a / 2 ^ (8 * m) < 2 ^ (8 * (s - m)) := by
  rw [Nat.div_lt_iff_lt_mul (Nat.two_pow_pos _), ← Nat.pow_add]
  exact Nat.lt_of_lt_of_le hs.1 (Nat.pow_le_pow_right (by decide) (by omega))
theorem isSz.uniq {a s t : Nat} (hs : isSz a s) (ht : isSz a t) : s = t := by
  have h1 := (hs.zero (m := t)).1 ((ht.zero (m := t)).2 (Nat.le_refl _))
  have h2 := (ht.zero (m := s)).1 ((hs.zero (m := s)).2 (Nat.le_refl _))
  omega
def bsz (a : Nat) : Nat := if a = 0 then 0 else Nat.log2 a / 8 + 1
theorem isSz_bsz (a : Nat) : isSz a (bsz a) := by
  unfold bsz
  by_cases h : a = 0
  · rw [if_pos h]; exact ⟨by rw [h]; exact Nat.two_pow_pos _, .inl rfl⟩
  · rw [if_neg h]
    refine ⟨Nat.lt_of_lt_of_le Nat.lt_log2_self (Nat.pow_le_pow_right (by decide) (by omega)), .inr ?_⟩
    exact Nat.le_trans (Nat.pow_le_pow_right (by decide) (by omega)) (Nat.log2_self_le h)
theorem isSz.eq {a s : Nat} (hs : isSz a s) : s = bsz a := hs.uniq (isSz_bsz a)
theorem bsz_le {a : Nat} (ha : a < b256) : bsz a ≤ 32 := by
  refine ((isSz_bsz a).zero (m := 32)).1 ?_
  rw [Nat.div_eq_zero_iff_lt (Nat.two_pow_pos _)]
  rw [← p256]; exact ha
theorem bsz_pos {a : Nat} (ha : a ≠ 0) : 0 < bsz a := by unfold bsz; rw [if_neg ha]; omega
/-- The three first bytes. -/
def mantV (a : Nat) : Nat := a / 2 ^ (8 * (bsz a - 3)) * 2 ^ (8 * (3 - bsz a))
theorem mantV_lt (a : Nat) : mantV a < 16777216 := by
  unfold mantV
  have h := (isSz_bsz a).lt (m := bsz a - 3)
  by_cases c : bsz a ≤ 3
  · rw [show bsz a - (bsz a - 3) = bsz a by omega] at h
    calc _ < 2 ^ (8 * bsz a) * 2 ^ (8 * (3 - bsz a)) := (Nat.mul_lt_mul_right (Nat.two_pow_pos _)).2 h
      _ = 16777216 := by rw [← Nat.pow_add, show 8 * bsz a + 8 * (3 - bsz a) = 24 by omega]
  · rw [show 3 - bsz a = 0 by omega, Nat.mul_zero, Nat.pow_zero, Nat.mul_one]
    rw [show bsz a - (bsz a - 3) = 3 by omega] at h
    exact h
def compV (a : Nat) : Nat := if 8388608 ≤ mantV a then (bsz a + 1) * 16777216 + mantV a / 256 else bsz a * 16777216 + mantV a
/-- What is answered: none of 0. -/
def compA (a : Nat) : AVal := if a = 0 then .tup [.int .u32 0, .int .i64 50] else .tup [.int .u32 (compV a : Nat), .int .i64 0]
theorem byte_step (a k : Nat) : a / 2 ^ (8 * k) = a / 2 ^ (8 * (k + 1)) * 256 + byN a k := by
  unfold byN
  rw [show 8 * (k + 1) = 8 * k + 8 by omega, Nat.pow_add, ← Nat.div_div_eq_div_mul]
  omega
theorem arr_1 {k : IntKind} {z : Int} {id e : Nat} {h : Hp} (hh : h id = some (.row (.l [.int k z]) e)) : Arr k h id 1 (fun _ => z) :=
  ⟨_, e, hh, rfl, fun j hj => by
    match j, hj with
    | 0, _ => rfl⟩
theorem arr_one {k : IntKind} {z : Int} {h : Hp} {id : Nat} {f : Nat → Int} (ha : Arr k h id 1 (fun x => if x = 0 then z else f x)) : Arr k h id 1 (fun _ => z) := ha.ext fun j hj => if_pos (by omega)
/-- One number of a row is written in a region that draws, with what is looked at. -/
theorem fev_st {E : Env} {fn : FuncId} {rnd : Option Nat} {Q : Post0} {ks : List Kf} {tm : List AVal} {h : Hp} {n : Nat} {ops rest : List Oper} {d : Option Tmp} {k : IntKind} {id m : Nat} {f : Nat → Int} {o : Nat} {fs : List Foot} (hi : Arr k h id m f) {e : TypeId} {i : TI} (he : ti E e = M.pure i) (hs : i.size = 1) {j : Nat} (hj : j < m) {z : Int}
    (hq : ∀ b, Arr k (Go.Am.upd h id (some b)) id m (fun x => if x = j then z else f x) → Fe E fn rnd Q ks ops (o + 1) rest (putT tm d undef) (⟨o, [id], [id], n, n⟩ :: fs) (Go.Am.upd h id (some b)) n) :
    FeV E fn rnd Q ks ops o rest d tm fs (doStore E e (.ptr id j) (.int k z)) h n := by
  obtain ⟨cc, e', b1, b2, b3⟩ := hi
  have hw : Wr (doStore E e (.ptr id j) (.int k z)) h n [id] [id] undef (Go.Am.upd h id (some (.row (setAll cc j [.int k z]) e'))) := by
    simp only [doStore, Go.Am.store, he, bind_pure, AVal.cells, hs, List.length_singleton, show Nat.beq 1 1 = true from rfl, writeCells]
    refine Wr.ret (a := ()) ?_
    refine Wr.bind (rs := []) (Rd.get b1) ?_
    simp only [rowK]
    refine Wr.bind (rs := []) (i1 := []) (Rd.ob (ble_of (by omega))) ?_
    exact Wr.set b1
  refine fev_wr hw (hq _ ⟨_, e', upd_same _ _ _, ?_, fun x hx => ?_⟩)
  · simp only [setAll]; rw [cont_size_set]; exact b2
  · simp only [setAll]
    rw [cont_at_set _ _ _ _ (by omega)]
    by_cases q : x = j
    · simp only [if_pos q]
    · simp only [if_neg q]; exact b3 x hx
/- A number's compact form: the program's; the round over its bytes. -/
theorem f50 (a : Nat) (h : Hp) (n : Nat) : Wp (callI env (evalW env) 50 [W a]) h n fun v' h' n' => v' = .fn (.func 66) [] [.ptr n 0] ∧ h' = upd h n (some (.row (.l [.int .u64 (wd a 0 : Nat), .int .u64 (wd a 1 : Nat), .int .u64 (wd a 2 : Nat), .int .u64 (wd a 3 : Nat)]) 25)) ∧ n' = n + 1 := by
  refine wp_callI ff50 fi50 ?_
  simp only [fu50, Try.f50, Option.getD_some, List.replicate, core1, tyr, fgr, execOp, opd, opds, ofValue, putT, put, nth, forgetL, cel, alloc, newRow, ended, resultOf, oneOrTup, List.cons_append, List.nil_append, List.length_cons, List.length_nil, Nat.reduceSub, and_self, Nat.zero_add, wp_pure, W]
noncomputable def L15 (tm : List AVal) : ALoop := { state := .ready, pending := none, fn := 15, tmps := tm, params := [13, 14], assign := ra15_0, body := rb15_0 }
set_option maxHeartbeats 4000000 in
theorem loop66 (Q : Post0) (ks : List Kf) (N a s i1 i3 i4 i5 i6 id : Nat) (v3 : AVal) (ha : a < b256) (hs : isSz a s) (hs0 : 0 < s) (hs32 : s ≤ 32)
    (hd : i3 ≠ i4 ∧ i3 ≠ i5 ∧ i3 ≠ i6 ∧ i3 ≠ id ∧ i4 ≠ i5 ∧ i4 ≠ i6 ∧ i4 ≠ id ∧ i5 ≠ i6 ∧ i5 ≠ id ∧ i6 ≠ id) (hN : N ≤ i4 ∧ N ≤ i5 ∧ N ≤ i6 ∧ N ≤ id) (h0 : Hp) (n : Nat) (hn : i3 < n ∧ i4 < n ∧ i5 < n ∧ i6 < n ∧ id < n)
    (hA : ∀ (h : Hp) (tm' : List AVal) (x0 x1 x2 x3 x7 x8 x10 x12 x13 x14 x20 x23 x32 x34 x40 : AVal), s < 3 → h id = some (.loop (L15 (x0 :: x1 :: x2 :: x3 :: .ptr i4 0 :: .ptr i5 0 :: .ptr i6 0 :: x7 :: x8 :: AVal.junk :: x10 :: AVal.junk :: x12 :: x13 :: x14 :: AVal.junk :: AVal.junk :: AVal.junk :: AVal.junk :: AVal.junk :: x20 :: AVal.junk :: AVal.junk :: x23 :: AVal.junk :: AVal.junk :: AVal.junk :: AVal.junk :: AVal.junk :: AVal.junk :: AVal.junk :: AVal.junk :: x32 :: AVal.junk :: x34 :: AVal.junk :: AVal.junk :: AVal.junk :: AVal.junk :: AVal.junk :: x40 :: AVal.junk :: AVal.junk :: AVal.junk :: AVal.junk :: AVal.junk :: AVal.junk :: AVal.junk :: AVal.junk :: AVal.junk :: []))) → Arr .i64 h i4 1 (fun _ => (s : Nat)) → Arr .u32 h i5 1 (fun _ => (a : Nat)) → Arr .i64 h i6 1 (fun _ => (s : Nat)) → Old h0 h N → Free h n → Kont env 66 none Q ks (.exit 0) tm' h n)
    (hB : ∀ (h : Hp) (tm' : List AVal), 3 ≤ s → (∃ l, h id = some (.loop l) ∧ l.state = .done ∧ l.pending = some (.exit 0)) → Arr .i64 h i4 1 (fun _ => (s : Nat)) → Arr .u32 h i5 1 (fun _ => (a / 2 ^ (8 * (s - 3)) : Nat)) → Arr .i64 h i6 1 (fun _ => 3) → Old h0 h N → Free h n → Kont env 66 none Q ks .ret tm' h n) :
    ∀ (m : Nat) (h : Hp) (z11 z22 : AVal) (x0 x1 x2 x3 x7 x8 x10 x12 x13 x14 x20 x23 x32 x34 x40 : AVal), m ≤ 32 → s - m < 3 → h id = some (.loop (L15 (x0 :: x1 :: x2 :: x3 :: .ptr i4 0 :: .ptr i5 0 :: .ptr i6 0 :: x7 :: x8 :: AVal.junk :: x10 :: AVal.junk :: x12 :: x13 :: x14 :: AVal.junk :: AVal.junk :: AVal.junk :: AVal.junk :: AVal.junk :: x20 :: AVal.junk :: AVal.junk :: x23 :: AVal.junk :: AVal.junk :: AVal.junk :: AVal.junk :: AVal.junk :: AVal.junk :: AVal.junk :: AVal.junk :: x32 :: AVal.junk :: x34 :: AVal.junk :: AVal.junk :: AVal.junk :: AVal.junk :: AVal.junk :: x40 :: AVal.junk :: AVal.junk :: AVal.junk :: AVal.junk :: AVal.junk :: AVal.junk :: AVal.junk :: AVal.junk :: AVal.junk :: []))) →
    Nums .u8 h v3 i3 0 32 32 (fun j => (byN a j : Nat)) → Arr .i64 h i4 1 (fun _ => (if s ≤ m then 0 else s : Nat)) → Arr .u32 h i5 1 (fun _ => (a / 2 ^ (8 * m) : Nat)) → Arr .i64 h i6 1 (fun _ => (s - m : Nat)) → Old h0 h N → Free h n →
    Run env 66 none Q (.loop lp66_0) ks (.fn (.yield id) [] [] :: .ptr i1 0 :: AVal.junk :: v3 :: .int .i64 (((m : Nat) : Int) - 1) :: AVal.junk :: AVal.junk :: AVal.junk :: AVal.junk :: AVal.junk :: AVal.junk :: z11 :: AVal.junk :: AVal.junk :: AVal.junk :: AVal.junk :: AVal.junk :: AVal.junk :: AVal.junk :: AVal.junk :: AVal.junk :: AVal.junk :: z22 :: []) h n := by
  intro m
  induction m with
  | zero =>
    intro h z11 z22 x0 x1 x2 x3 x7 x8 x10 x12 x13 x14 x20 x23 x32 x34 x40 hm hsm hid h3 h4 h5 h6 ho hf
    have hc : ¬ (0 : Int) ≤ ((0 : Nat) : Int) - 1 := by decide
    rw [run_loop]
    simp only [lp66_0, loopsOf, Try.f66, Option.getD_some, core1, fgr, execOp, opd, ofValue, putT, put, nth, forgetL, bor, binInt, shiftB, intOp, List.nil_append, List.append_nil, Int.cast_ofNat_Int, Int.reduceLE, Int.reduceSub, Int.reduceNeg, ge_iff_le, decide_true, decide_false, List.getD_cons_zero]
    refine hA h _ _ _ _ _ _ _ _ _ _ _ _ _ _ _ _ (by omega) hid ?_ ?_ ?_ ho hf
    · rw [if_neg (by omega)] at h4; exact h4
    · rw [Nat.mul_zero, Nat.pow_zero, Nat.div_one] at h5; exact h5
    · rw [Nat.sub_zero] at h6; exact h6
  | succ m ih =>
    intro h z11 z22 x0 x1 x2 x3 x7 x8 x10 x12 x13 x14 x20 x23 x32 x34 x40 hm hsm hid h3 h4 h5 h6 ho hf
    have hc : (0 : Int) ≤ ((m : Nat) : Int) := by omega
    have hm1 : ((m + 1 : Nat) : Int) - 1 = ((m : Nat) : Int) := by omega
    have hwm : IntKind.i64.wrap (((m : Nat) : Int) - 1) = ((m : Nat) : Int) - 1 := w64 (by omega) (by omega)
    have hwp : IntKind.i64.wrap (((m : Nat) : Int) + 1) = ((m + 1 : Nat) : Int) := by rw [w64 (by omega) (by omega)]; omega
    have h32 : m < 32 := by omega
    rw [run_loop]
    simp only [lp66_0, loopsOf, Try.f66, Option.getD_some, core1, fgr, execOp, opd, ofValue, putT, put, nth, forgetL, bor, binInt, shiftB, intOp, wrapI, List.nil_append, List.append_nil, ge_iff_le, decide_true, List.getD_cons_zero, hm1, hc]
    rw [opv_rd (h3.idx0 t86 s5 rfl h32)]
    simp only [core1, execOp, opd, putT, put, nth]
    rw [opv_rd (h3.load0 ti5 rfl h32)]
    simp only [core1, execOp, opd, opds, putT, put, nth, doCall, hwp]
    refine opv_yield (l := L15 (x0 :: x1 :: x2 :: x3 :: .ptr i4 0 :: .ptr i5 0 :: .ptr i6 0 :: x7 :: x8 :: AVal.junk :: x10 :: AVal.junk :: x12 :: x13 :: x14 :: AVal.junk :: AVal.junk :: AVal.junk :: AVal.junk :: AVal.junk :: x20 :: AVal.junk :: AVal.junk :: x23 :: AVal.junk :: AVal.junk :: AVal.junk :: AVal.junk :: AVal.junk :: AVal.junk :: AVal.junk :: AVal.junk :: x32 :: AVal.junk :: x34 :: AVal.junk :: AVal.junk :: AVal.junk :: AVal.junk :: AVal.junk :: x40 :: AVal.junk :: AVal.junk :: AVal.junk :: AVal.junk :: AVal.junk :: AVal.junk :: AVal.junk :: AVal.junk :: AVal.junk :: [])) hid rfl rfl ?_
    simp only [ra15_0, List.getD_cons_zero, putAll, List.zip_cons_cons, List.zip_nil_left, L15, rangesOf, Try.f15, Option.getD_some, core1, fgr, execOp, opd, putT, put, nth, forgetL, unOp, List.nil_append, List.append_nil, true_and]
    refine ⟨_, hid, rfl, ?_⟩
    simp only [rb15_0, List.getD_cons_zero, L15, rangesOf, Try.f15, Option.getD_some, core1, execOp, opd, nth, List.nil_append, List.append_nil]
    generalize hG : upd h id (some (Blk.loop _)) = G
    have gid := (congrFun hG.symm id).trans (upd_same _ _ _)
    have gk : ∀ j, j ≠ id → G j = h j := fun j hj => by rw [← hG, upd_ne _ _ hj]
    have fG : Free G n := by rw [← hG]; exact hf.upd (by omega)
    have g3 := h3.keep (gk i3 (by omega))
    have g4 := h4.keep (gk i4 (by omega))
    have g5 := h5.keep (gk i5 (by omega))
    have g6 := h6.keep (gk i6 (by omega))
    have oG : Old h0 G N := fun j hj => by rw [gk j (by omega)]; exact ho j hj
    clear hG
    have st := byte_step a m
    have bl := byN_lt a m
    have z1 := hs.zero (m := m)
    have z2 := hs.zero (m := m + 1)
    rw [opv_rd (g4.load ti3 rfl (j := 0) (by decide))]
    by_cases c1 : s ≤ m
    · have e1 : (if s ≤ m + 1 then 0 else s) = 0 := if_pos (by omega)
      have e2 : byN a m = 0 := by rw [z1.2 c1] at st; omega
      have e3 : s - (m + 1) = 0 := by omega
      simp only [core1, fgr, execOp, opd, ofValue, putT, put, nth, forgetL, bor, binInt, shiftB, intOp, doPick, branch, List.getElem?_cons_succ, List.getElem?_cons_zero, Int.cast_ofNat_Int, decide_true, beq_self_eq_true, bne_self_eq_false, e1, e2]
      rw [opv_rd (g4.load ti3 rfl (j := 0) (by decide))]
      simp only [core1, fgr, execOp, opd, ofValue, putT, put, nth, forgetL, bor, binInt, shiftB, intOp, Int.cast_ofNat_Int, Int.reduceLT, gt_iff_lt, decide_true, decide_false, e1]
      rw [opv_rd (g6.load ti3 rfl (j := 0) (by decide))]
      simp only [core1, fgr, execOp, opd, ofValue, putT, put, nth, forgetL, bor, binInt, shiftB, intOp, Int.cast_ofNat_Int, int_beq, Int.reduceEq, decide_true, decide_false, e3]
      refine ⟨_, gid, ?_⟩
      simp only [core1, fgr, execOp, opd, ofValue, putT, put, nth, forgetL, bor, binInt, shiftB, intOp, wrapI, decide_true, Bool.not_true, normB, jumpOf, hwm]
      refine ih _ _ _ _ _ _ _ _ _ _ _ _ _ _ _ _ _ _ (by omega) (by omega) (upd_same _ _ _) (g3.upd (by omega)) ((g4.upd (by omega)).ext fun j hj => ?_) ((g5.upd (by omega)).ext fun j hj => ?_) ((g6.upd (by omega)).ext fun j hj => ?_) (fun j hj => ?_) (fG.upd (by omega))
      · rw [e1, if_pos c1]
      · rw [z1.2 c1, z2.2 (by omega)]
      · rw [e3, show s - m = 0 by omega]
      · rw [upd_ne _ _ (by omega)]; exact oG j hj
    have hpos : (0 : Int) < ((s : Nat) : Int) := by omega
    have hq := hs.lt (m := m + 1)
    have hq2 : a / 2 ^ (8 * (m + 1)) < 65536 := Nat.lt_of_lt_of_le hq (show _ ≤ 2 ^ 16 from Nat.pow_le_pow_right (by decide) (by omega))
    have sh := shl32 (a / 2 ^ (8 * (m + 1))) 8 (by decide)
    have cv : IntKind.u32.wrap ((byN a m : Nat) : Int) = ((byN a m : Nat) : Int) := by rw [wrap32, Nat.mod_eq_of_lt (by omega)]
    have orr : IntKind.u32.wrap ((BitVec.ofInt IntKind.u32.bits (((a / 2 ^ (8 * (m + 1))) * 2 ^ 8 % 4294967296 : Nat) : Int) ||| BitVec.ofInt IntKind.u32.bits ((byN a m : Nat) : Int)).toNat : Int) = ((a / 2 ^ (8 * m) : Nat) : Int) := by
      rw [or32 (Nat.mod_lt _ (by decide)) (by omega), Nat.mod_eq_of_lt (by omega), or_low _ _ 8 (Nat.mul_mod_left _ _) bl, st]
    have sh2 : IntKind.u32.wrap ((((a / 2 ^ (8 * (m + 1)) : Nat)) : Int) * 2 ^ (min (Int.toNat 8) IntKind.u32.bits)) = (((a / 2 ^ (8 * (m + 1))) * 2 ^ 8 % 4294967296 : Nat) : Int) := sh
    have w6 : IntKind.i64.wrap (((s - (m + 1) : Nat) : Int) + 1) = ((s - m : Nat) : Int) := by rw [w64 (by omega) (by omega)]; omega
    by_cases c2 : s = m + 1
    case' pos =>
      have e1 : (if s ≤ m + 1 then 0 else s) = 0 := if_pos (by omega)
      have e2 : ¬ ((byN a m : Nat) : Int) = 0 := by
        have := mt z1.1 c1
        rw [z2.2 (by omega)] at st
        omega
      simp only [core1, fgr, execOp, opd, ofValue, putT, put, nth, forgetL, bor, binInt, shiftB, intOp, doPick, branch, List.getElem?_cons_succ, List.getElem?_cons_zero, Int.cast_ofNat_Int, int_bne, not_false_eq_true, decide_true, beq_self_eq_true, e1, e2]
      refine opv_arr g4 ti3 rfl (j := 0) (by decide) fun b hb => ?_
      have k4 : Arr .i64 (upd G i4 (some b)) i4 1 (fun _ => (s : Nat)) := (arr_one hb).ext fun j hj => by rw [c2]
      generalize hG2 : upd G i4 (some b) = G2 at *
      have k3 := g3.keep (h' := G2) (by rw [← hG2, upd_ne _ _ (by omega)])
      have k5 := g5.keep (h' := G2) (by rw [← hG2, upd_ne _ _ (by omega)])
      have k6 := g6.keep (h' := G2) (by rw [← hG2, upd_ne _ _ (by omega)])
      have f2 : Free G2 n := by rw [← hG2]; exact fG.upd (by omega)
      have id2 := (show G2 id = G id by rw [← hG2, upd_ne _ _ (by omega)]).trans gid
      have o2 : Old h0 G2 N := fun j hj => by rw [← hG2, upd_ne _ _ (by omega)]; exact oG j hj
      clear hG2
      simp only [core1, fgr, execOp, opd, putT, nth, forgetL]
      rw [opv_rd (k4.load ti3 rfl (j := 0) (by decide))]
      simp only [core1, fgr, execOp, opd, ofValue, putT, put, nth, forgetL, bor, binInt, shiftB, intOp, gt_iff_lt, decide_true, hpos]
    case' neg =>
      have e1 : (if s ≤ m + 1 then 0 else s) = s := if_neg (by omega)
      have e2 : ¬ ((s : Nat) : Int) = 0 := by omega
      have k4 : Arr .i64 G i4 1 (fun _ => (s : Nat)) := g4.ext fun j hj => by rw [e1]
      generalize hG2 : G = G2 at *
      clear hG2
      have k3 := g3
      have k5 := g5
      have k6 := g6
      have f2 := fG
      have id2 := gid
      have o2 := oG
      simp only [core1, fgr, execOp, opd, ofValue, putT, put, nth, forgetL, bor, binInt, shiftB, intOp, doPick, branch, List.getElem?_cons_succ, List.getElem?_cons_zero, int_beq, decide_true, decide_false, e1, e2]
      rw [opv_rd (k4.load ti3 rfl (j := 0) (by decide))]
      simp only [core1, fgr, execOp, opd, ofValue, putT, put, nth, forgetL, bor, binInt, shiftB, intOp, gt_iff_lt, decide_true, hpos]
    all_goals
      refine run_draw.2 ⟨rfl, ?_⟩
      simp only [fe_cons, execOp, opd, nth]
      rw [fev_rd (k5.load ti35 rfl (j := 0) (by decide))]
      simp only [fe_cons, fev_ob, fev_pure, core1, tyr, execOp, opd, ofValue, putT, put, nth, und, lenOf, bor, binInt, shiftB, shiftOp, intOp, wrapI, strK, intK, Nat.reduceAdd, Int.reduceLE, decide_true, true_and, Nat.zero_add, convert, convStr, isU8, cv, sh2, orr]
      rw [fev_rd (k6.load ti3 rfl (j := 0) (by decide))]
      simp only [fe_cons, fev_pure, execOp, opd, ofValue, putT, put, nth, bor, binInt, shiftB, intOp, wrapI, Nat.reduceAdd, decide_true, w6]
      refine fev_st k5 ti35 rfl (j := 0) (by decide) fun b5 l5 => ?_
      simp only [fe_cons, execOp, opd, putT, nth, Nat.reduceAdd]
      refine fev_st (k6.upd (by omega)) ti3 rfl (j := 0) (by decide) fun b6 l6 => ?_
      simp only [fe_nil, core1, fgr, execOp, opd, putT, nth, forgetL, Nat.reduceAdd]
      refine ⟨(by (try simp (disch := omega) only [fine, List.all_cons, List.all_nil, clash_pl, clash_pr, clash_rr, Bool.not_false, Bool.true_or, Bool.and_true, Bool.true_and, clash_rw, clash_ww]); repeat' (first | rfl | exact (Bool.or_eq_true _ _).mpr (.inr rfl) | refine (Bool.and_eq_true _ _).mpr ⟨?_, ?_⟩)), ?_⟩
      have l5 := (arr_one l5).upd (i := i6) (b := some b6) (by omega)
      have l6 := arr_one l6
      have l4 := (k4.upd (i := i5) (b := some b5) (by omega)).upd (i := i6) (b := some b6) (by omega)
      have l3 := (k3.upd (i := i5) (b := some b5) (by omega)).upd (i := i6) (b := some b6) (by omega)
      have idl : (upd (upd G2 i5 (some b5)) i6 (some b6)) id = G2 id := by rw [upd_ne _ _ (by omega), upd_ne _ _ (by omega)]
      have ol : Old h0 (upd (upd G2 i5 (some b5)) i6 (some b6)) N := fun j hj => by rw [upd_ne _ _ (by omega), upd_ne _ _ (by omega)]; exact o2 j hj
      have fl : Free (upd (upd G2 i5 (some b5)) i6 (some b6)) n := (f2.upd (by omega)).upd (by omega)
      generalize upd (upd G2 i5 (some b5)) i6 (some b6) = G3 at *
      have idl := idl.trans id2
      rw [opv_rd (l6.load ti3 rfl (j := 0) (by decide))]
      by_cases c3 : s - m = 3
      · have c4 : ((s - m : Nat) : Int) = 3 := by omega
        simp only [core1, cont_block_any, fgr, execOp, opd, ofValue, putT, put, nth, forgetL, bor, binInt, shiftB, intOp, decide_true, beq_self_eq_true, c4]
        refine ⟨_, idl, ?_⟩
        simp only [core1, Bool.not_false, normB, jumpOf]
        refine hB _ _ (by omega) ⟨_, upd_same _ _ _, rfl, rfl⟩ (l4.upd (by omega)) ((l5.upd (by omega)).ext fun j hj => ?_) ((l6.upd (by omega)).ext fun j hj => ?_) (fun j hj => ?_) (fl.upd (by omega))
        · rw [show s - 3 = m by omega]
        · exact c4
        · rw [upd_ne _ _ (by omega)]; exact ol j hj
      · have c4 : ¬ ((s - m : Nat) : Int) = 3 := by omega
        simp only [core1, fgr, execOp, opd, ofValue, putT, put, nth, forgetL, bor, binInt, shiftB, intOp, int_beq, decide_true, decide_false, c4]
        refine ⟨_, idl, ?_⟩
        simp only [core1, fgr, execOp, opd, ofValue, putT, put, nth, forgetL, bor, binInt, shiftB, intOp, wrapI, decide_true, Bool.not_true, normB, jumpOf, hwm]
        refine ih _ _ _ _ _ _ _ _ _ _ _ _ _ _ _ _ _ _ (by omega) (by omega) (upd_same _ _ _) (l3.upd (by omega)) ((l4.upd (by omega)).ext fun j hj => ?_) (l5.upd (by omega)) (l6.upd (by omega)) (fun j hj => ?_) (fl.upd (by omega))
        · rw [if_neg c1]
        · rw [upd_ne _ _ (by omega)]; exact ol j hj
/- A number's compact form: the program's. -/
theorem loop15 (Q : Post0) (ks : List Kf) (rnd : Option Nat) (p4 : AVal) (i5 i6 n : Nat) (d : i5 ≠ i6) (h0 : Hp) (F : Nat)
    (hq : ∀ (h : Hp) (x0 x1 x2 x3 x7 x8 x10 x12 x13 x14 x20 x23 x32 x34 x40 : AVal), Arr .u32 h i5 1 (fun _ => (F : Nat)) → (∀ j, j ≠ i5 → j ≠ i6 → h j = h0 j) → Kont env 15 rnd Q ks (.exit 2) (x0 :: x1 :: x2 :: x3 :: p4 :: .ptr i5 0 :: .ptr i6 0 :: x7 :: x8 :: AVal.junk :: x10 :: AVal.junk :: x12 :: x13 :: x14 :: AVal.junk :: AVal.junk :: AVal.junk :: AVal.junk :: AVal.junk :: x20 :: AVal.junk :: AVal.junk :: x23 :: AVal.junk :: AVal.junk :: AVal.junk :: AVal.junk :: AVal.junk :: AVal.junk :: AVal.junk :: AVal.junk :: x32 :: AVal.junk :: x34 :: AVal.junk :: AVal.junk :: AVal.junk :: AVal.junk :: AVal.junk :: x40 :: AVal.junk :: AVal.junk :: AVal.junk :: AVal.junk :: AVal.junk :: AVal.junk :: AVal.junk :: AVal.junk :: AVal.junk :: []) h n) :
    ∀ (k t M : Nat) (h : Hp) (x0 x1 x2 x3 x7 x8 x10 x12 x13 x14 x20 x23 x32 x34 x40 : AVal), t + k = 3 → M < 2 ^ (8 * t) → F = M * 2 ^ (8 * k) → Arr .u32 h i5 1 (fun _ => (M : Nat)) → Arr .i64 h i6 1 (fun _ => (t : Nat)) → (∀ j, j ≠ i5 → j ≠ i6 → h j = h0 j) →
    Run env 15 rnd Q (.loop lp15_0) ks (x0 :: x1 :: x2 :: x3 :: p4 :: .ptr i5 0 :: .ptr i6 0 :: x7 :: x8 :: AVal.junk :: x10 :: AVal.junk :: x12 :: x13 :: x14 :: AVal.junk :: AVal.junk :: AVal.junk :: AVal.junk :: AVal.junk :: x20 :: AVal.junk :: AVal.junk :: x23 :: AVal.junk :: AVal.junk :: AVal.junk :: AVal.junk :: AVal.junk :: AVal.junk :: AVal.junk :: AVal.junk :: x32 :: AVal.junk :: x34 :: AVal.junk :: AVal.junk :: AVal.junk :: AVal.junk :: AVal.junk :: x40 :: AVal.junk :: AVal.junk :: AVal.junk :: AVal.junk :: AVal.junk :: AVal.junk :: AVal.junk :: AVal.junk :: AVal.junk :: []) h n := by
  intro k
  induction k with
  | zero =>
    intro t M h x0 x1 x2 x3 x7 x8 x10 x12 x13 x14 x20 x23 x32 x34 x40 ht hM hF h5 h6 hk
    have : t = 3 := by omega
    subst this
    have hc : ¬ ((3 : Nat) : Int) < 3 := by decide
    rw [run_loop]
    simp only [lp15_0, loopsOf, Try.f15, Option.getD_some, core1, execOp, opd, nth, List.nil_append, List.append_nil, List.getD_cons_zero]
    rw [opv_rd (h6.load ti3 rfl (j := 0) (by decide))]
    simp only [core1, fgr, execOp, opd, ofValue, putT, put, nth, forgetL, bor, binInt, shiftB, intOp, Int.cast_ofNat_Int, Int.reduceLT, decide_true, decide_false]
    refine hq h _ _ _ _ _ _ _ _ _ _ _ _ _ _ _ (h5.ext fun j hj => ?_) hk
    rw [hF, Nat.mul_zero, Nat.pow_zero, Nat.mul_one]
  | succ k ih =>
    intro t M h x0 x1 x2 x3 x7 x8 x10 x12 x13 x14 x20 x23 x32 x34 x40 ht hM hF h5 h6 hk
    have hc : ((t : Nat) : Int) < 3 := by omega
    have hw : IntKind.i64.wrap (((t : Nat) : Int) + 1) = ((t + 1 : Nat) : Int) := by rw [w64 (by omega) (by omega)]; omega
    have hM2 : M < 65536 := Nat.lt_of_lt_of_le hM (show _ ≤ 2 ^ 16 from Nat.pow_le_pow_right (by decide) (by omega))
    have sh : IntKind.u32.wrap (((M : Nat) : Int) * 2 ^ (min (Int.toNat 8) IntKind.u32.bits)) = ((M * 256 : Nat) : Int) := by
      have := shl32 M 8 (by decide)
      rw [Nat.mod_eq_of_lt (by omega)] at this
      exact this
    rw [run_loop]
    simp only [lp15_0, loopsOf, Try.f15, Option.getD_some, core1, execOp, opd, nth, List.nil_append, List.append_nil, List.getD_cons_zero]
    rw [opv_rd (h6.load ti3 rfl (j := 0) (by decide))]
    simp only [core1, fgr, execOp, opd, ofValue, putT, put, nth, forgetL, bor, binInt, shiftB, intOp, decide_true, hc]
    rw [opv_rd (h5.load ti35 rfl (j := 0) (by decide))]
    simp only [core1, execOp, opd, ofValue, putT, put, nth, bor, binInt, shiftB, shiftOp, wrapI, Int.reduceLE, decide_true, true_and, sh]
    refine opv_arr h5 ti35 rfl (j := 0) (by decide) fun b5 k5 => ?_
    simp only [core1, fgr, execOp, opd, putT, nth, forgetL]
    rw [opv_rd ((h6.upd (by omega)).load ti3 rfl (j := 0) (by decide))]
    simp only [core1, execOp, opd, ofValue, putT, put, nth, bor, binInt, shiftB, intOp, wrapI, decide_true, hw]
    refine opv_arr (h6.upd (by omega)) ti3 rfl (j := 0) (by decide) fun b6 k6 => ?_
    simp only [core1, fgr, putT, forgetL]
    refine ih (t + 1) (M * 256) _ _ _ _ _ _ _ _ _ _ _ _ _ _ _ _ (by omega) ?_ ?_ ((arr_one k5).upd (by omega)) (arr_one k6) (fun j h1 h2 => by rw [upd_ne _ _ h2, upd_ne _ _ h1]; exact hk j h1 h2)
    · rw [show 8 * (t + 1) = 8 * t + 8 by omega, Nat.pow_add]; omega
    · rw [hF, show 8 * (k + 1) = 8 + 8 * k by omega, Nat.pow_add, Nat.mul_assoc]
set_option maxHeartbeats 4000000 in
theorem f15 (a : Nat) (h : Hp) (n : Nat) (ha : a < b256) (hf : Free h n) : Wp (callI env (evalW env) 15 [W a]) h n fun v' h' n' => v' = compA a ∧ Old h h' n := by
  refine wp_callI ff15 fi15 ?_
  have kb : Arr .u64 (upd h n (some (Blk.row (Cont.l [AVal.int IntKind.u64 (wd a 0 : Nat), AVal.int IntKind.u64 (wd a 1 : Nat), AVal.int IntKind.u64 (wd a 2 : Nat), AVal.int IntKind.u64 (wd a 3 : Nat)]) 25))) n 4 (fun j => (wd a j : Nat)) := arr_W (upd_same _ _ _)
  simp only [fu15, Try.f15, Option.getD_some, List.replicate, core1, tyr, fgr, execOp, opd, ofValue, putT, put, nth, forgetL, cel, alloc, newRow, ended, resultOf, oneOrTup, List.cons_append, List.nil_append, List.length_cons, List.length_nil, Nat.reduceSub, Nat.zero_add, wp_pure, W]
  rw [opv_rd (kb.all ti25 rfl rfl), range4]
  simp only [core1, hkr, execOp, opd, opds, putT, put, nth, doCall, callV_func, List.nil_append, List.append_nil]
  refine opv_callf hf.new (f39 a _ _ ha) fun v1 h1 n1 hn1 f1 ⟨e1, o1⟩ => ?_
  subst e1
  by_cases h0 : a = 0
  · simp only [core1, fgr, execOp, opd, ofValue, putT, put, nth, forgetL, ↓reduceIte, decide_true, true_and, h0, compA]
    exact fun j hj => by rw [o1 j (by omega), upd_ne _ _ (by omega)]
  have k1 := kb.keep (o1 _ (by omega))
  have o1 : Old h h1 n := fun j hj => by rw [o1 j (by omega), upd_ne _ _ (by omega)]
  simp only [core1, tyr, fgr, execOp, opd, ofValue, putT, put, nth, forgetL, zeroOf, cel, alloc, doAlloc, newRow, decide_false, h0]
  refine opv_arr (arr_1 (by rw [upd_ne _ _ (by omega), upd_ne _ _ (by omega)]; exact upd_same _ _ _)) ti3 rfl (j := 0) (by decide) fun b4 k4 => ?_
  simp only [core1, execOp, opd, ofValue, putT, nth]
  refine opv_arr (arr_1 (by rw [upd_ne _ _ (by omega), upd_ne _ _ (by omega)]; exact upd_same _ _ _)) ti35 rfl (j := 0) (by decide) fun b5 k5 => ?_
  simp only [core1, execOp, opd, ofValue, putT, nth]
  refine opv_arr (arr_1 (by rw [upd_ne _ _ (by omega), upd_ne _ _ (by omega)]; exact upd_same _ _ _)) ti3 rfl (j := 0) (by decide) fun b6 k6 => ?_
  have k4 := ((arr_one k4).upd (i := n1 + 1) (b := some b5) (by omega)).upd (i := n1 + 1 + 1) (b := some b6) (by omega)
  have k5 := (arr_one k5).upd (i := n1 + 1 + 1) (b := some b6) (by omega)
  have k6 := arr_one k6
  generalize hG : upd (upd (upd (upd (upd (upd h1 n1 _) _ _) _ _) _ _) _ _) _ _ = G at *
  have gk : ∀ j, j < n1 → G j = h1 j := fun j hj => by rw [← hG]; simp (disch := omega) only [upd_ne]
  have fG : Free G (n1 + 1 + 1 + 1) := by rw [← hG]; exact (((f1.new.new.new).upd (by omega)).upd (by omega)).upd (by omega)
  clear hG
  have g1 := k1.keep (gk _ (by omega))
  have oG : Old h G n := fun j hj => by rw [gk j (by omega)]; exact o1 j hj
  simp only [core1, fgr, execOp, opd, putT, nth, forgetL]
  rw [opv_rd (g1.all ti25 rfl rfl), range4]
  simp only [core1, hkr, execOp, opd, opds, putT, put, nth, doCall, callV_func, List.nil_append, List.append_nil]
  refine (opv_det (f50 a G _) _ _ _ _ _ _ _ _ _).2 ?_
  simp only [core1, fgr, putT, put, forgetL]
  refine run_range (g := 66) (first := []) (cap := [.ptr (n1 + 1 + 1 + 1) 0]) rfl rfl ?_
  refine wp_callI ff66 fi66 ?_
  simp only [fu66, Try.f66, Option.getD_some, List.replicate, core1, execOp, opd, nth, ended, resultOf, oneOrTup, List.cons_append, List.nil_append, List.length_cons, List.length_nil, Nat.reduceAdd, Nat.reduceSub, Nat.zero_add, wp_pure]
  generalize hF : upd (upd G (n1 + 1 + 1 + 1) _) (n1 + 1 + 1 + 1 + 1) (some (Blk.loop _)) = F
  have fid := (congrFun hF.symm (n1 + 1 + 1 + 1 + 1)).trans (upd_same _ _ _)
  have fa : Arr .u64 F (n1 + 1 + 1 + 1) 4 (fun j => (wd a j : Nat)) := arr_W (by rw [← hF, upd_ne _ _ (by omega)]; exact upd_same _ _ _)
  have fk : ∀ j, j < n1 + 1 + 1 + 1 → F j = G j := fun j hj => by rw [← hF, upd_ne _ _ (by omega), upd_ne _ _ (by omega)]
  have k4 := k4.keep (fk _ (by omega))
  have k5 := k5.keep (fk _ (by omega))
  have k6 := k6.keep (fk _ (by omega))
  have fF : Free F (n1 + 1 + 1 + 1 + 1 + 1) := by rw [← hF]; exact fG.new.new
  have oF : Old h F n := fun j hj => by rw [fk j (by omega)]; exact oG j hj
  clear hF
  rw [opv_rd (fa.all ti25 rfl rfl), range4]
  simp only [core1, hkr, execOp, opd, opds, putT, put, nth, doCall, callV_func, List.nil_append, List.append_nil]
  refine opv_callf fF (f67 a F _) fun v2 h2 n2 hn2 f2 ⟨id2, y2⟩ => ?_
  have e2 := y2.eq
  subst e2
  simp only [core1, fgr, execOp, opd, opds, ofValue, putT, put, nth, forgetL, doCall, builtin, one1, blr, bor, binInt, shiftB, intOp, wrapI, Int.cast_ofNat_Int, Int.reduceSub, decide_true]
  have hs := isSz_bsz a
  have hs32 := bsz_le ha
  have hs0 := bsz_pos h0
  have yo := y2.old
  have yg := y2.ge
  have yl := y2.lt
  have hml := mantV_lt a
  refine loop66 _ _ n a (bsz a) (n1 + 1 + 1 + 1) id2 n1 (n1 + 1) (n1 + 1 + 1) (n1 + 1 + 1 + 1 + 1) _ ha hs hs0 hs32 (by omega) (by omega) h n2 (by omega) ?hA ?hB 32 h2 _ _ _ _ _ _ _ _ _ _ _ _ _ _ _ _ _ (by omega) (by omega) ((y2.old _ (by omega)).trans fid) y2.nums ((k4.keep (y2.old _ (by omega))).ext fun j hj => by rw [if_pos hs32]; rfl) ((k5.keep (y2.old _ (by omega))).ext fun j hj => by rw [(hs.zero (m := 32)).2 hs32]; rfl) ((k6.keep (y2.old _ (by omega))).ext fun j hj => by rw [show bsz a - 32 = 0 by omega]; rfl) (oF.trans y2.old (by omega)) f2
  case' hA =>
    intro h3 tm' x0 x1 x2 x3 x7 x8 x10 x12 x13 x14 x20 x23 x32 x34 x40 hlt hid l4 l5 l6 o3 f3
    simp only [core1, true_and]
    refine ⟨_, hid, by simp [L15], .normal, rfl, ?_⟩
    simp only [core1]
    have hM : bsz a < 2 ^ 60 := by omega
    have hF : mantV a = a * 2 ^ (8 * (3 - bsz a)) := by
      unfold mantV
      rw [show bsz a - 3 = 0 by omega, Nat.mul_zero, Nat.pow_zero, Nat.div_one]
    refine loop15 _ _ none _ (n1 + 1) (n1 + 1 + 1) n2 (by omega) _ (mantV a) ?_ (3 - bsz a) (bsz a) a _ _ _ _ _ _ _ _ _ _ _ _ _ _ _ _ (by omega) hs.1 hF (l5.upd (by omega)) (l6.upd (by omega)) (fun _ _ _ => rfl)
    intro h4 x0 x1 x2 x3 x7 x8 x10 x12 x13 x14 x20 x23 x32 x34 x40 l5 hk
    have l4 := (l4.upd (i := n1 + 1 + 1 + 1 + 1) (by omega)).keep (hk _ (by omega) (by omega))
    have o4 : Old h h4 n := fun j hj => by rw [hk j (by omega) (by omega), upd_ne _ _ (by omega)]; exact o3 j hj
    clear hk
  case' hB =>
    intro h3 tm' hlt ⟨l, hid, ld, lp⟩ l4 l5 l6 o3 f3
    simp only [core1, true_and]
    refine ⟨_, hid, by simp [ld], .exit 0, by rw [lp], ?_⟩
    simp only [core1]
    have hM : bsz a < 2 ^ 60 := by omega
    have hF : mantV a = a / 2 ^ (8 * (bsz a - 3)) * 2 ^ (8 * 0) := by
      unfold mantV
      rw [show 3 - bsz a = 0 by omega]
    have hl := hs.lt (m := bsz a - 3)
    rw [show bsz a - (bsz a - 3) = 3 by omega] at hl
    refine loop15 _ _ none _ (n1 + 1) (n1 + 1 + 1) n2 (by omega) _ (mantV a) ?_ 0 3 _ _ _ _ _ _ _ _ _ _ _ _ _ _ _ _ _ (by omega) hl hF (l5.upd (by omega)) (l6.upd (by omega)) (fun _ _ _ => rfl)
    intro h4 x0 x1 x2 x3 x7 x8 x10 x12 x13 x14 x20 x23 x32 x34 x40 l5 hk
    have l4 := (l4.upd (i := n1 + 1 + 1 + 1 + 1) (by omega)).keep (hk _ (by omega) (by omega))
    have o4 : Old h h4 n := fun j hj => by rw [hk j (by omega) (by omega), upd_ne _ _ (by omega)]; exact o3 j hj
    clear hk
  all_goals
    simp only [core1, execOp, opd, nth]
    rw [opv_rd (l5.load ti35 rfl (j := 0) (by decide))]
    by_cases c : 8388608 ≤ mantV a
    · have ci : (8388608 : Int) ≤ ((mantV a : Nat) : Int) := by omega
      have sr : Int.fdiv ((mantV a : Nat) : Int) (2 ^ (min (Int.toNat 8) IntKind.u32.bits)) = ((mantV a / 256 : Nat) : Int) := shr32 (mantV a) 8 (by decide)
      have wp : IntKind.i64.wrap (((bsz a : Nat) : Int) + 1) = ((bsz a + 1 : Nat) : Int) := by rw [w64 (by omega) (by omega)]; omega
      have cv : IntKind.u32.wrap ((bsz a + 1 : Nat) : Int) = ((bsz a + 1 : Nat) : Int) := by rw [wrap32, Nat.mod_eq_of_lt (by omega)]
      have sh : IntKind.u32.wrap (((bsz a + 1 : Nat) : Int) * 2 ^ (min (Int.toNat 24) IntKind.u32.bits)) = (((bsz a + 1) * 16777216 : Nat) : Int) := by
        have := shl32 (bsz a + 1) 24 (by decide)
        rw [Nat.mod_eq_of_lt (by omega)] at this
        exact this
      have orr : IntKind.u32.wrap ((BitVec.ofInt IntKind.u32.bits (((bsz a + 1) * 16777216 : Nat) : Int) ||| BitVec.ofInt IntKind.u32.bits ((mantV a / 256 : Nat) : Int)).toNat : Int) = ((compV a : Nat) : Int) := by
        rw [or32 (by omega) (by omega), or_low _ _ 24 (Nat.mul_mod_left _ _) (by omega)]
        unfold compV
        rw [if_pos c]
      simp only [core1, fgr, execOp, opd, ofValue, putT, put, nth, forgetL, bor, binInt, shiftB, intOp, ge_iff_le, decide_true, ci]
      refine run_draw.2 ⟨rfl, ?_⟩
      simp only [fe_cons, execOp, opd, nth]
      rw [fev_rd (l5.load ti35 rfl (j := 0) (by decide))]
      simp only [fe_cons, fev_ob, fev_pure, execOp, opd, ofValue, putT, put, nth, bor, binInt, shiftB, shiftOp, Nat.reduceAdd, Int.reduceLE, decide_true, true_and, Nat.zero_add, sr]
      rw [fev_rd (l4.load ti3 rfl (j := 0) (by decide))]
      simp only [fe_cons, fev_pure, execOp, opd, ofValue, putT, put, nth, bor, binInt, shiftB, intOp, wrapI, Nat.reduceAdd, decide_true, wp]
      refine fev_st l5 ti35 rfl (j := 0) (by decide) fun b5 m5 => ?_
      simp only [fe_cons, execOp, opd, putT, nth, Nat.reduceAdd]
      refine fev_st (l4.upd (by omega)) ti3 rfl (j := 0) (by decide) fun b4 m4 => ?_
      simp only [fe_nil, core1, fgr, execOp, opd, putT, nth, forgetL, Nat.reduceAdd]
      refine ⟨(by (try simp (disch := omega) only [fine, List.all_cons, List.all_nil, clash_pl, clash_pr, clash_rr, Bool.not_false, Bool.true_or, Bool.and_true, Bool.true_and, clash_rw, clash_ww]); repeat' (first | rfl | exact (Bool.or_eq_true _ _).mpr (.inr rfl) | refine (Bool.and_eq_true _ _).mpr ⟨?_, ?_⟩)), ?_⟩
      have m5 := (arr_one m5).upd (i := n1) (b := some b4) (by omega)
      have m4 := arr_one m4
      rw [opv_rd (m4.load ti3 rfl (j := 0) (by decide))]
      simp only [core1, tyr, execOp, opd, ofValue, putT, put, nth, und, lenOf, bor, binInt, shiftB, shiftOp, wrapI, strK, intK, Int.reduceLE, decide_true, true_and, convert, convStr, isU8, cv, sh]
      rw [opv_rd (m5.load ti35 rfl (j := 0) (by decide))]
      simp only [core1, fgr, execOp, opd, ofValue, putT, put, nth, forgetL, bor, binInt, shiftB, intOp, wrapI, decide_true, true_and, orr, compA, if_neg h0]
      exact fun j hj => by rw [upd_ne _ _ (by omega), upd_ne _ _ (by omega)]; exact o4 j hj
    · have ci : ¬ (8388608 : Int) ≤ ((mantV a : Nat) : Int) := by omega
      have cv : IntKind.u32.wrap ((bsz a : Nat) : Int) = ((bsz a : Nat) : Int) := by rw [wrap32, Nat.mod_eq_of_lt (by omega)]
      have sh : IntKind.u32.wrap (((bsz a : Nat) : Int) * 2 ^ (min (Int.toNat 24) IntKind.u32.bits)) = (((bsz a) * 16777216 : Nat) : Int) := by
        have := shl32 (bsz a) 24 (by decide)
        rw [Nat.mod_eq_of_lt (by omega)] at this
        exact this
      have orr : IntKind.u32.wrap ((BitVec.ofInt IntKind.u32.bits (((bsz a) * 16777216 : Nat) : Int) ||| BitVec.ofInt IntKind.u32.bits ((mantV a : Nat) : Int)).toNat : Int) = ((compV a : Nat) : Int) := by
        rw [or32 (by omega) (by omega), or_low _ _ 24 (Nat.mul_mod_left _ _) (by omega)]
        unfold compV
        rw [if_neg c]
      simp only [core1, fgr, execOp, opd, ofValue, putT, put, nth, forgetL, bor, binInt, shiftB, intOp, ge_iff_le, decide_true, decide_false, ci]
      rw [opv_rd (l4.load ti3 rfl (j := 0) (by decide))]
      simp only [core1, tyr, execOp, opd, ofValue, putT, put, nth, und, lenOf, bor, binInt, shiftB, shiftOp, wrapI, strK, intK, Int.reduceLE, decide_true, true_and, convert, convStr, isU8, cv, sh]
      rw [opv_rd (l5.load ti35 rfl (j := 0) (by decide))]
      simp only [core1, fgr, execOp, opd, ofValue, putT, put, nth, forgetL, bor, binInt, shiftB, intOp, wrapI, decide_true, true_and, orr, compA, if_neg h0]
      exact o4
/-- Three bytes of a number that has s. -/
def manS (a s : Nat) : Nat := a * 2 ^ 24 / 2 ^ (8 * s)
theorem mul_pow_div (a i j : Nat) : a * 2 ^ i / 2 ^ j = a * 2 ^ (i - j) / 2 ^ (j - i) := by
  by_cases h : i ≤ j
  · rw [show i - j = 0 by omega, Nat.pow_zero, Nat.mul_one]
    conv => lhs; rw [show 2 ^ j = 2 ^ i * 2 ^ (j - i) by rw [← Nat.pow_add]; congr 1; omega, Nat.mul_comm a]
    rw [Nat.mul_div_mul_left _ _ (Nat.two_pow_pos _)]
  · rw [show j - i = 0 by omega, Nat.pow_zero, Nat.div_one]
    rw [show 2 ^ i = 2 ^ (i - j) * 2 ^ j by rw [← Nat.pow_add]; congr 1; omega, ← Nat.mul_assoc, Nat.mul_div_cancel _ (Nat.two_pow_pos _)]
theorem mantV_eq (a : Nat) : mantV a = manS a (bsz a) := by
  unfold mantV manS
  rw [mul_pow_div]
  by_cases h : bsz a ≤ 3
  · rw [show bsz a - 3 = 0 by omega, show 8 * bsz a - 24 = 0 by omega, show 24 - 8 * bsz a = 8 * (3 - bsz a) by omega]
    simp
  · rw [show 3 - bsz a = 0 by omega, show 24 - 8 * bsz a = 0 by omega, show 8 * bsz a - 24 = 8 * (bsz a - 3) by omega]
    simp
theorem manS_succ (a s : Nat) : manS a (s + 1) = manS a s / 256 := by
  unfold manS
  rw [show 8 * (s + 1) = 8 * s + 8 by omega, Nat.pow_add, ← Nat.div_div_eq_div_mul]
/-- The size that is written. -/
def szC (a : Nat) : Nat := if 8388608 ≤ mantV a then bsz a + 1 else bsz a
theorem compV_eq (a : Nat) : compV a = szC a * 16777216 + manS a (szC a) ∧ manS a (szC a) < 8388608 := by
  have h := mantV_lt a
  unfold compV szC
  by_cases c : 8388608 ≤ mantV a
  · rw [if_pos c, if_pos c, manS_succ, ← mantV_eq]
    exact ⟨rfl, by omega⟩
  · rw [if_neg c, if_neg c, ← mantV_eq]
    exact ⟨rfl, by omega⟩
theorem szC_le {a : Nat} (ha : a < b256) : szC a ≤ 33 := by
  have := bsz_le ha
  unfold szC
  split <;> omega
/-- What a compact form stands for. -/
def expX (n : Nat) : Nat := if n / 16777216 < 3 then n % 8388608 / 2 ^ (8 * (3 - n / 16777216)) else n % 8388608 * 2 ^ (8 * (n / 16777216 - 3))
def expV (n : Nat) : Option Nat := if expX n < b256 ∧ expX n ≠ 0 ∧ compV (expX n) = n then some (expX n) else none
def expA (n : Nat) : AVal := match expV n with
  | none => .tup [W 0, .int .i64 50]
  | some x => .tup [W x, .int .i64 0]
/-- The truncated one is not taken for it. -/
theorem exp_trunc {n x : Nat} (hx : x < b256) (hc : compV x = n) (h3 : 3 ≤ n / 16777216) (he : x = expX n % b256) : expX n < b256 := by
  obtain ⟨c1, c2⟩ := compV_eq x
  have hs : n / 16777216 = szC x := by rw [← hc, c1]; omega
  have hm : n % 8388608 = manS x (szC x) := by rw [← hc, c1]; omega
  have hle := szC_le hx
  have hX : expX n = n % 8388608 * 2 ^ (8 * (n / 16777216 - 3)) := by unfold expX; rw [if_neg (by omega)]
  rw [hX]
  have h1 : manS x (szC x) = x / 2 ^ (8 * (szC x - 3)) := by
    unfold manS
    rw [mul_pow_div, show 24 - 8 * szC x = 0 by omega, Nat.pow_zero, Nat.mul_one]
    congr 2; omega
  rw [hs] at hX h3 ⊢
  rw [hX, p256] at he
  have h2 : x / 2 ^ (8 * (szC x - 3)) = n % 8388608 % 2 ^ (256 - 8 * (szC x - 3)) := by
    generalize szC x = s at *
    rw [he, show (2 : Nat) ^ 256 = 2 ^ (8 * (s - 3)) * 2 ^ (256 - 8 * (s - 3)) by rw [← Nat.pow_add]; congr 1; omega]
    rw [Nat.mod_mul_right_div_self, Nat.mul_div_cancel _ (Nat.two_pow_pos _)]
  rw [h2] at h1
  rw [h1] at hm
  have h4 : n % 8388608 < 2 ^ (256 - 8 * (szC x - 3)) := by
    rw [hm]; exact Nat.mod_lt _ (Nat.two_pow_pos _)
  rw [p256, show (256 : Nat) = 256 - 8 * (szC x - 3) + 8 * (szC x - 3) by omega, Nat.pow_add]
  exact (Nat.mul_lt_mul_right (Nat.two_pow_pos _)).2 h4
theorem expV_hi {n : Nat} (h : 33 < n / 16777216) : expV n = none := by
  unfold expV
  rw [if_neg]
  rintro ⟨h1, h2, h3⟩
  have := szC_le h1
  have := (compV_eq (expX n)).1
  have := (compV_eq (expX n)).2
  rw [h3] at *
  omega
theorem expV_x {n x : Nat} (hx : x = expX n) (h1 : x < b256) (h2 : x ≠ 0) (h3 : compV x = n) : expV n = some x := by
  subst hx
  exact if_pos ⟨h1, h2, h3⟩
theorem expV_no {n : Nat} (h : expX n < b256 → expX n ≠ 0 → compV (expX n) ≠ n) : expV n = none := if_neg fun q => h q.1 q.2.1 q.2.2
/- What a compact form stands for: the program's. -/
theorem mask23 {x : Nat} (hx : x < 4294967296) : IntKind.u32.wrap ((BitVec.ofInt IntKind.u32.bits (x : Int) &&& BitVec.ofInt IntKind.u32.bits 8388607).toNat : Int) = ((x % 8388608 : Nat) : Int) := by
  rw [BitVec.toNat_and, bv32 hx, show (BitVec.ofInt IntKind.u32.bits 8388607).toNat = 2 ^ 23 - 1 from rfl, Nat.and_two_pow_sub_one_eq_mod, wrap32, Nat.mod_eq_of_lt]
  have : x % 2 ^ 23 < 8388608 := Nat.mod_lt _ (by decide)
  omega
set_option maxHeartbeats 4000000 in
theorem f16 (c : Nat) (h : Hp) (n : Nat) (hc : c < 4294967296) (hf : Free h n) : Wp (callI env (evalW env) 16 [.int .u32 (c : Nat)]) h n fun v' h' n' => v' = expA c ∧ Old h h' n := by
  refine wp_callI ff16 fi16 ?_
  have hS : c / 16777216 < 256 := by omega
  have hm : c % 8388608 < 8388608 := Nat.mod_lt _ (by decide)
  obtain ⟨s, es⟩ : ∃ s, s = c / 16777216 := ⟨_, rfl⟩
  obtain ⟨m, em⟩ : ∃ m, m = c % 8388608 := ⟨_, rfl⟩
  have sr : Int.fdiv ((c : Nat) : Int) (2 ^ (min (Int.toNat 24) IntKind.u32.bits)) = ((s : Nat) : Int) := by rw [es]; exact shr32 c 24 (by decide)
  have cv1 : IntKind.i64.wrap ((s : Nat) : Int) = ((s : Nat) : Int) := w64 (by omega) (by omega)
  have cv2 : IntKind.u64.wrap ((m : Nat) : Int) = ((m : Nat) : Int) := wu64 (by omega) (by omega)
  have mk := mask23 hc
  rw [← em] at mk
  simp only [fu16, Try.f16, Option.getD_some, List.replicate, core1, tyr, fgr, hkr, execOp, opd, opds, ofValue, putT, put, nth, forgetL, doCall, callV_func, und, zeroOf, lenOf, bor, binInt, shiftB, shiftOp, intOp, wrapI, strK, intK, cel, alloc, doAlloc, newRow, ended, resultOf, oneOrTup, List.cons_append, List.nil_append, List.append_nil, List.length_cons, List.length_nil, Nat.reduceSub, Int.reduceLE, decide_true, true_and, Nat.zero_add, convert, convStr, isU8, sr, cv1, cv2, mk]
  have q1 : IntKind.i64.wrap (8 * IntKind.i64.wrap (((s : Nat) : Int) - 3)) = 8 * (((s : Nat) : Int) - 3) := by rw [w64 (n := ((s : Nat) : Int) - 3) (by omega) (by omega), w64 (by omega) (by omega)]
  have hmb : m < b256 := by unfold b256; omega
  refine opv_callf hf.new (f19 m _ _ (by omega)) fun v1 h1 n1 hn1 f1 ⟨e1, o1⟩ => ?_
  subst e1
  have k2 : Arr .u64 h1 n 4 (fun _ => 0) := (arr_0 (upd_same _ _ _)).keep (o1 _ (by omega))
  have o1 : Old h h1 n := fun j hj => by rw [o1 j (by omega), upd_ne _ _ (by omega)]
  simp only [core1, tyr, execOp, opd, putT, put, nth, zeroOf, cel, alloc, doAlloc, newRow, W]
  refine opv_all4 (arr_0 (upd_same _ _ _)) ti25 rfl fun b5 k5 => ?_
  have k5 := pick_wd k5
  have s5 : ∀ j, j < n1 → (upd (upd h1 n1 (some (Blk.row (Cont.l [AVal.int IntKind.u64 0, AVal.int IntKind.u64 0, AVal.int IntKind.u64 0, AVal.int IntKind.u64 0]) 25))) n1 (some b5)) j = h1 j := fun j hj => by rw [upd_ne _ _ (by omega), upd_ne _ _ (by omega)]
  have f5 : Free (upd (upd h1 n1 (some (Blk.row (Cont.l [AVal.int IntKind.u64 0, AVal.int IntKind.u64 0, AVal.int IntKind.u64 0, AVal.int IntKind.u64 0]) 25))) n1 (some b5)) (n1 + 1) := f1.new.upd (by omega)
  generalize upd (upd h1 n1 (some (Blk.row (Cont.l [AVal.int IntKind.u64 0, AVal.int IntKind.u64 0, AVal.int IntKind.u64 0, AVal.int IntKind.u64 0]) 25))) n1 (some b5) = H5 at *
  have k2 := k2.keep (s5 _ (by omega))
  have o5 : Old h H5 n := fun j hj => by rw [s5 j (by omega)]; exact o1 j hj
  simp only [core1, fgr, execOp, opd, putT, nth, forgetL]
  rw [opv_rd (k5.all ti25 rfl rfl), range4]
  simp only [core1, hkr, execOp, opd, opds, ofValue, putT, put, nth, doCall, callV_func, bor, binInt, shiftB, intOp, wrapI, List.nil_append, List.append_nil, decide_true, q1]
  refine opv_callf f5 (f20 m (8 * (((s : Nat) : Int) - 3)) _ _ hmb f5) fun v6 h6 n6 hn6 f6 ⟨e6, o6⟩ => ?_
  subst e6
  have k5 := k5.keep (o6 _ (by omega))
  have k2 := k2.keep (o6 _ (by omega))
  simp only [core1, tyr, execOp, opd, putT, put, nth, zeroOf, cel, alloc, doAlloc, newRow, W]
  refine opv_all4 (arr_0 (upd_same _ _ _)) ti25 rfl fun b7 k7 => ?_
  have k7 := pick_wd k7
  have s7 : ∀ j, j < n6 → (upd (upd h6 n6 (some (Blk.row (Cont.l [AVal.int IntKind.u64 0, AVal.int IntKind.u64 0, AVal.int IntKind.u64 0, AVal.int IntKind.u64 0]) 25))) n6 (some b7)) j = h6 j := fun j hj => by rw [upd_ne _ _ (by omega), upd_ne _ _ (by omega)]
  have f7 : Free (upd (upd h6 n6 (some (Blk.row (Cont.l [AVal.int IntKind.u64 0, AVal.int IntKind.u64 0, AVal.int IntKind.u64 0, AVal.int IntKind.u64 0]) 25))) n6 (some b7)) (n6 + 1) := f6.new.upd (by omega)
  generalize upd (upd h6 n6 (some (Blk.row (Cont.l [AVal.int IntKind.u64 0, AVal.int IntKind.u64 0, AVal.int IntKind.u64 0, AVal.int IntKind.u64 0]) 25))) n6 (some b7) = H7 at *
  have k5 := k5.keep (s7 _ (by omega))
  have k2 := k2.keep (s7 _ (by omega))
  have o7 : Old h H7 n := fun j hj => by rw [s7 j (by omega), o6 j (by omega)]; exact o5 j hj
  by_cases hi : 33 < s
  · have e := expV_hi (n := c) (by omega)
    have c1 : ¬ ((s : Nat) : Int) < 3 := by omega
    have c2 : 33 < ((s : Nat) : Int) := by omega
    simp only [core1, fgr, execOp, opd, ofValue, ops2, putT, put, nth, forgetL, bor, binInt, shiftB, intOp, gt_iff_lt, decide_true, decide_false, c1, c2]
    simp (disch := omega) only [core1, tyr, execOp, opd, putT, put, nth, sizeOf, cel, getO, build, fill]
    refine opv_all4 k2 ti25 rfl fun bb hbb => ?_
    simp only [core1, fgr, execOp, opd, ofValue, putT, put, nth, forgetL, true_and, wp_pure, wp_rd (hbb.all ti25 rfl rfl), range4, pick4]
    exact ⟨by rw [expA, e]; rfl, fun j hj => by rw [upd_ne _ _ (by omega)]; exact o7 j hj⟩
  have c2 : ¬ 33 < ((s : Nat) : Int) := by omega
  obtain ⟨x, ex⟩ : ∃ x, x = expX c % b256 := ⟨_, rfl⟩
  have hx : x < b256 := by rw [ex]; exact Nat.mod_lt _ (by decide)
  by_cases c1 : s < 3
  case' pos =>
    have c1i : ((s : Nat) : Int) < 3 := by omega
    have q2 : IntKind.i64.wrap (8 * IntKind.i64.wrap (3 - ((s : Nat) : Int))) = ((8 * (3 - s) : Nat) : Int) := by rw [w64 (n := 3 - ((s : Nat) : Int)) (by omega) (by omega), w64 (by omega) (by omega)]; omega
    have hxr : rightV m ((8 * (3 - s) : Nat) : Int) = x := by
      unfold rightV
      rw [if_neg (by omega), Int.toNat_natCast, ex]
      unfold expX
      rw [← es, ← em, if_pos c1, Nat.mod_eq_of_lt]
      exact Nat.lt_of_le_of_lt (Nat.div_le_self _ _) hmb
    simp only [core1, fgr, execOp, opd, ofValue, putT, put, nth, forgetL, bor, binInt, shiftB, intOp, decide_true, c1i]
    rw [opv_rd (k5.all ti25 rfl rfl), range4]
    simp only [core1, hkr, execOp, opd, opds, ofValue, putT, put, nth, doCall, callV_func, bor, binInt, shiftB, intOp, wrapI, List.nil_append, List.append_nil, decide_true, q2]
    refine opv_callf f7 (f51 m ((8 * (3 - s) : Nat) : Int) _ _ hmb f7) fun v8 h8 n8 hn8 f8 ⟨e8, o8⟩ => ?_
    subst e8
    rw [hxr]
    simp only [core1, execOp, opd, putT, put, nth, W]
    refine opv_all4 (k7.keep (o8 _ (by omega))) ti25 rfl fun b8 k8 => ?_
    have k8 := pick_wd k8
    have k2 := (k2.keep (o8 _ (by omega))).upd (i := n6) (b := some b8) (by omega)
    have o8 : Old h (upd h8 n6 (some b8)) n := fun j hj => by rw [upd_ne _ _ (by omega), o8 j (by omega)]; exact o7 j hj
    have f8 : Free (upd h8 n6 (some b8)) n8 := f8.upd (by omega)
    generalize upd h8 n6 (some b8) = H8 at *
    simp only [core1, fgr, execOp, opd, ofValue, putT, put, nth, forgetL, bor, binInt, shiftB, intOp, gt_iff_lt, decide_true, decide_false, c2]
  case' neg =>
    have c1i : ¬ ((s : Nat) : Int) < 3 := by omega
    have hxl : leftV m (8 * (((s : Nat) : Int) - 3)) = x := by
      rw [ex]
      unfold expX
      rw [← es, ← em, if_neg c1]
      unfold leftV
      by_cases q : s = 3
      · rw [if_pos (by omega), q, Nat.sub_self, Nat.mul_zero, Nat.pow_zero, Nat.mul_one, Nat.mod_eq_of_lt hmb]
      · rw [if_neg (by omega), show (8 * (((s : Nat) : Int) - 3)).toNat = 8 * (s - 3) by omega]
    rw [hxl] at k7
    have k8 := k7
    obtain ⟨n8, en8⟩ : ∃ n8, n8 = n6 + 1 := ⟨_, rfl⟩
    have hn8 : n6 + 1 ≤ n8 := by omega
    have f8 := f7
    have o8 := o7
    rw [← en8] at f8 ⊢
    generalize H7 = H8 at *
    simp only [core1, fgr, execOp, opd, ofValue, putT, put, nth, forgetL, bor, binInt, shiftB, intOp, gt_iff_lt, decide_true, decide_false, c1i, c2]
  all_goals
    rw [opv_rd (k8.all ti25 rfl rfl), range4]
    simp only [core1, hkr, execOp, opd, opds, putT, put, nth, doCall, callV_func, List.nil_append, List.append_nil]
    refine opv_callf f8 (f15 x _ _ hx f8) fun v9 h9 n9 hn9 f9 ⟨e9, o9⟩ => ?_
    subst e9
    have k8 := k8.keep (o9 _ (by omega))
    have k2 := k2.keep (o9 _ (by omega))
    have o9 : Old h h9 n := fun j hj => by rw [o9 j (by omega)]; exact o8 j hj
    by_cases x0 : x = 0
    · have e : expV c = none := expV_no fun l1 l2 _ => l2 (by rw [ex, Nat.mod_eq_of_lt l1] at x0; exact x0)
      simp only [compA, if_pos x0]
      simp (disch := omega) only [core1, tyr, fgr, execOp, opd, ofValue, ops2, putT, put, nth, forgetL, sizeOf, bor, binInt, shiftB, intOp, doPick, branch, cel, extract, getO, List.getElem?_cons_succ, List.getElem?_cons_zero, int_bne, Int.reduceEq, not_false_eq_true, decide_true, build, fill]
      refine opv_all4 k2 ti25 rfl fun bb hbb => ?_
      simp only [core1, fgr, execOp, opd, ofValue, putT, put, nth, forgetL, true_and, wp_pure, wp_rd (hbb.all ti25 rfl rfl), range4, pick4]
      exact ⟨by rw [expA, e]; rfl, fun j hj => by rw [upd_ne _ _ (by omega)]; exact o9 j hj⟩
    simp only [compA, if_neg x0]
    by_cases ce : compV x = c
    · have hX : x = expX c := by
        rw [ex, Nat.mod_eq_of_lt]
        by_cases c1 : s < 3
        · unfold expX
          rw [← es, ← em, if_pos c1]
          exact Nat.lt_of_le_of_lt (Nat.div_le_self _ _) hmb
        · exact exp_trunc hx ce (by omega) ex
      have e := expV_x hX hx x0 ce
      simp only [core1, fgr, execOp, opd, ofValue, putT, put, nth, forgetL, bor, binInt, shiftB, intOp, doPick, branch, extract, getO, List.getElem?_cons_succ, List.getElem?_cons_zero, decide_true, bne_self_eq_false, ce]
      rw [opv_rd (k8.all ti25 rfl rfl), range4]
      simp only [core1, execOp, opd, putT, put, nth]
      refine opv_all4 k2 ti25 rfl fun bb hbb => ?_
      simp only [core1, fgr, execOp, opd, ofValue, putT, put, nth, forgetL, true_and, wp_pure, wp_rd (hbb.all ti25 rfl rfl), range4, pick4]
      exact ⟨by rw [expA, e]; rfl, fun j hj => by rw [upd_ne _ _ (by omega)]; exact o9 j hj⟩
    · have e : expV c = none := expV_no fun l1 l2 l3 => ce (by rw [ex, Nat.mod_eq_of_lt l1]; exact l3)
      have cei : ¬ ((compV x : Nat) : Int) = ((c : Nat) : Int) := by omega
      simp (disch := omega) only [core1, tyr, fgr, execOp, opd, ofValue, ops2, putT, put, nth, forgetL, sizeOf, bor, binInt, shiftB, intOp, doPick, branch, cel, extract, getO, List.getElem?_cons_succ, List.getElem?_cons_zero, int_bne, not_false_eq_true, decide_true, bne_self_eq_false, build, fill, cei]
      refine opv_all4 k2 ti25 rfl fun bb hbb => ?_
      simp only [core1, fgr, execOp, opd, ofValue, putT, put, nth, forgetL, true_and, wp_pure, wp_rd (hbb.all ti25 rfl rfl), range4, pick4]
      exact ⟨by rw [expA, e]; rfl, fun j hj => by rw [upd_ne _ _ (by omega)]; exact o9 j hj⟩
/- A number's compact form: the document's. -/
def padN (a j : Nat) : Nat := if j < 3 then 0 else byN a (j - 3)
theorem padN_eq (a j : Nat) : a * 2 ^ 24 / 2 ^ (8 * j) % 256 = padN a j := by
  unfold padN byN
  rw [mul_pow_div]
  by_cases h : j < 3
  · rw [if_pos h, show 8 * j - 24 = 0 by omega, Nat.pow_zero, Nat.div_one, show 24 - 8 * j = 8 * (2 - j) + 8 by omega, Nat.pow_add, ← Nat.mul_assoc]
    exact Nat.mul_mod_left _ _
  · rw [if_neg h, show 24 - 8 * j = 0 by omega, Nat.pow_zero, Nat.mul_one, show 8 * j - 24 = 8 * (j - 3) by omega]
theorem padN_lt (a j : Nat) : padN a j < 256 := by
  rw [← padN_eq]; exact Nat.mod_lt _ (by decide)
theorem mant_bytes (a : Nat) : mantV a = padN a (bsz a) + 256 * padN a (bsz a + 1) + 65536 * padN a (bsz a + 2) := by
  have hl := mantV_lt a
  rw [mantV_eq] at hl ⊢
  rw [← padN_eq, ← padN_eq, ← padN_eq]
  unfold manS at hl ⊢
  rw [show 8 * (bsz a + 1) = 8 * bsz a + 8 by omega, show 8 * (bsz a + 2) = 8 * bsz a + 16 by omega, Nat.pow_add, Nat.pow_add, ← Nat.div_div_eq_div_mul, ← Nat.div_div_eq_div_mul]
  generalize a * 2 ^ 24 / 2 ^ (8 * bsz a) = M at *
  omega
theorem sz_len {a L : Nat} (hL : isLen a L) : (L + 7) / 8 = bsz a := by
  refine isSz.eq ⟨Nat.lt_of_lt_of_le hL.1 (Nat.pow_le_pow_right (by decide) (by omega)), ?_⟩
  rcases hL.2 with h | h
  · left; omega
  · by_cases c : L = 0
    · left; omega
    · exact .inr (Nat.le_trans (Nat.pow_le_pow_right (by decide) (by omega)) h)
theorem wp_app_pad {h : Hp} {n ix iy e1 a : Nat} {y : AVal} (b1 : ix < n) (r1 : h ix = some (.row (.l [.int .u8 0, .int .u8 0, .int .u8 0]) e1)) (hy : y = .sl iy 0 32 (some 32) 1) (hn : Nums .u8 h y iy 0 32 32 (fun j => (byN a j : Nat))) :
    Wp (bAppend env [86, 86] (.sl ix 0 3 (some 3) 1) y) h n fun v' h' n' => v' = .sl n 0 35 none 1 ∧ n' = n + 1 ∧ Nums .u8 h' v' n 0 35 35 (fun j => (padN a j : Nat)) ∧ ∀ j, j ≠ n → j ≠ ix → h' j = h j := by
  subst hy
  obtain ⟨_, _, e2, r2⟩ := hn
  refine wp_append_x (i := ty5.i) (e := 5) (xs := cellsF .u8 3 (fun _ => 0)) (ys := cellsF .u8 32 (fun j => (byN a j : Nat))) (cnt := 3) (k := 32) (.full ix 3 _ e1 b1 r1 (by rw [cellsF_len]; rfl)) rfl rfl (show ti env 5 = M.pure ty5.i from rfl) rfl ?_ (by rw [cellsF_len]; rfl) (by decide) (by decide) (cellsF_one _ _ _) (by decide) (by decide) ?_
  · intro α f Q
    have htake : ((cellsF .u8 32 (fun j => ((byN a j : Nat) : Int))).drop 0).take (32 * 1) = cellsF .u8 32 (fun j => (byN a j : Nat)) := by rw [List.drop_zero, List.take_of_length_le (by rw [cellsF_len]; decide)]
    show Wp ((sliceCells 1 32 (AVal.sl iy 0 32 (some 32) 1)).bind f) _ _ _ ↔ _
    simp only [sliceCells, sameSz, bind_assoc, wp_get, r2, Option.some.injEq, exists_eq_left', rowK, wp_ob, bind_pure, Cont.size, Cont.sub, Nat.zero_add, htake, cellsF_len, Nat.mul_one, Nat.ble_self_eq_true, true_and]
  · intro h' hh' hold'
    refine ⟨rfl, rfl, ⟨⟨_, rfl⟩, by decide, 5, ?_⟩, fun j h1 h2 => hold' j h1 (fun q => h2 (by injection q with q; exact q.symm))⟩
    rw [hh', cellsF_app]
    have : cellsF .u8 (3 + 32) (fun j => if j < 3 then 0 else ((byN a (j - 3) : Nat) : Int)) = cellsF .u8 35 (fun j => (padN a j : Nat)) := cellsF_ext fun j hj => by
      unfold padN
      split <;> rfl
    rw [this]
set_option maxHeartbeats 4000000 in
theorem f22 (a : Nat) (h : Hp) (n : Nat) (ha : a < b256) (hf : Free h n) : Wp (callI env (evalW env) 22 [W a]) h n fun v' h' n' => v' = compA a ∧ Old h h' n := by
  refine wp_callI ff22 fi22 ?_
  have kb : Arr .u64 (upd h n (some (Blk.row (Cont.l [AVal.int IntKind.u64 (wd a 0 : Nat), AVal.int IntKind.u64 (wd a 1 : Nat), AVal.int IntKind.u64 (wd a 2 : Nat), AVal.int IntKind.u64 (wd a 3 : Nat)]) 25))) n 4 (fun j => (wd a j : Nat)) := arr_W (upd_same _ _ _)
  simp only [fu22, Try.f22, Option.getD_some, List.replicate, core1, tyr, fgr, execOp, opd, ofValue, putT, put, nth, forgetL, cel, alloc, newRow, ended, resultOf, oneOrTup, List.cons_append, List.nil_append, List.length_cons, List.length_nil, Nat.reduceSub, Nat.zero_add, wp_pure, W]
  rw [opv_rd (kb.all ti25 rfl rfl), range4]
  simp only [core1, hkr, execOp, opd, opds, putT, put, nth, doCall, callV_func, List.nil_append, List.append_nil]
  refine opv_callf hf.new (f41 a _ _ ha hf.new) fun v1 h1 n1 hn1 f1 ⟨e1, o1⟩ => ?_
  subst e1
  by_cases h0 : a = 0
  · simp only [core1, fgr, execOp, opd, ofValue, putT, put, nth, forgetL, ↓reduceIte, decide_true, true_and, h0, compA]
    exact fun j hj => by rw [o1 j (by omega), upd_ne _ _ (by omega)]
  have k1 := kb.keep (o1 _ (by omega))
  have o1 : Old h h1 n := fun j hj => by rw [o1 j (by omega), upd_ne _ _ (by omega)]
  simp only [core1, fgr, execOp, opd, putT, put, nth, forgetL, decide_false, h0]
  rw [opv_rd (k1.all ti25 rfl rfl), range4]
  simp only [core1, hkr, execOp, opd, opds, putT, put, nth, doCall, callV_func, List.nil_append, List.append_nil]
  refine opv_callf f1 (f45 a _ _ ha f1) fun v2 h2 n2 hn2 f2 ⟨⟨L, e2, hL, hl⟩, o2⟩ => ?_
  subst e2
  have k2 := k1.keep (o2 _ (by omega))
  have o2 : Old h h2 n := fun j hj => by rw [o2 j (by omega)]; exact o1 j hj
  have hs := sz_len hl
  have q1 : IntKind.i64.wrap (Int.tdiv (IntKind.i64.wrap (((L : Nat) : Int) + 7)) 8) = ((bsz a : Nat) : Int) := by
    rw [w64 (n := ((L : Nat) : Int) + 7) (by omega) (by omega), Int.tdiv_eq_ediv_of_nonneg (by omega), w64 (by omega) (by omega)]; omega
  have hs32 := bsz_le ha
  have hs0 := bsz_pos h0
  simp only [core1, tyr, fgr, execOp, opd, ofValue, ops2, putT, put, nth, forgetL, und, bor, binInt, shiftB, intOp, wrapI, cel, newRow, getO, List.cons_append, List.nil_append, List.append_nil, List.length_cons, List.length_nil, Nat.reduceAdd, Nat.beq, Int.reduceEq, not_false_eq_true, decide_true, Bool.not_false, Bool.and_true, Bool.true_and, true_and, Nat.zero_add, Nat.zero_mul, buildSlice, reps, fill, List.take_succ_cons, List.take_zero, List.drop_succ_cons, List.drop_zero, Nat.ble, Nat.mul_one, Nat.one_mul, ne_eq, true_and, List.length_cons, List.length_nil, Nat.zero_mul, q1]
  rw [opv_rd ((k2.upd (by omega)).all ti25 rfl rfl), range4]
  simp only [core1, hkr, execOp, opd, opds, putT, put, nth, doCall, callV_func, List.nil_append, List.append_nil]
  refine opv_callf f2.new (f53 a _ _ f2.new) fun v3 h3 n3 hn3 f3 ⟨id3, y3⟩ => ?_
  have e3 := y3.eq
  have yo := y3.old
  have yg := y3.ge
  have yl := y3.lt
  have yn := y3.nums
  subst e3
  simp only [core1, execOp, opd, opds, putT, put, nth, doCall, builtin, two2]
  refine opv_callf f3 (wp_app_pad (a := a) (show n2 < n3 by omega) ((yo n2 (by omega)).trans (upd_same _ _ _)) rfl yn) fun v4 h4 n4 hn4 f4 ⟨e4, en4, k4, o4⟩ => ?_
  subst e4; subst en4
  have o4 : Old h h4 n := fun j hj => by rw [o4 j (by omega) (by omega), yo j (by omega), upd_ne _ _ (by omega)]; exact o2 j hj
  have w1 : IntKind.i64.wrap (((bsz a : Nat) : Int) + 1) = ((bsz a + 1 : Nat) : Int) := by rw [w64 (by omega) (by omega)]; omega
  have w2 : IntKind.i64.wrap (((bsz a : Nat) : Int) + 2) = ((bsz a + 2 : Nat) : Int) := by rw [w64 (by omega) (by omega)]; omega
  have p0 := padN_lt a (bsz a)
  have p1 := padN_lt a (bsz a + 1)
  have p2 := padN_lt a (bsz a + 2)
  have c0 : IntKind.u32.wrap ((padN a (bsz a) : Nat) : Int) = ((padN a (bsz a) : Nat) : Int) := wu32 (by omega) (by omega)
  have c1 : IntKind.u32.wrap ((padN a (bsz a + 1) : Nat) : Int) = ((padN a (bsz a + 1) : Nat) : Int) := wu32 (by omega) (by omega)
  have c2 : IntKind.u32.wrap ((padN a (bsz a + 2) : Nat) : Int) = ((padN a (bsz a + 2) : Nat) : Int) := wu32 (by omega) (by omega)
  have c3 : IntKind.u32.wrap (256 * ((padN a (bsz a + 1) : Nat) : Int)) = ((256 * padN a (bsz a + 1) : Nat) : Int) := by rw [wu32 (by omega) (by omega)]; omega
  have c4 : IntKind.u32.wrap (65536 * ((padN a (bsz a + 2) : Nat) : Int)) = ((65536 * padN a (bsz a + 2) : Nat) : Int) := by rw [wu32 (by omega) (by omega)]; omega
  have hm := mant_bytes a
  have c5 : IntKind.u32.wrap (((padN a (bsz a) : Nat) : Int) + ((256 * padN a (bsz a + 1) : Nat) : Int)) = ((padN a (bsz a) + 256 * padN a (bsz a + 1) : Nat) : Int) := by rw [wu32 (by omega) (by omega)]; omega
  have c6 : IntKind.u32.wrap (((padN a (bsz a) + 256 * padN a (bsz a + 1) : Nat) : Int) + ((65536 * padN a (bsz a + 2) : Nat) : Int)) = ((mantV a : Nat) : Int) := by rw [wu32 (by omega) (by omega)]; omega
  simp only [core1, fgr, execOp, opd, putT, put, nth, forgetL]
  refine run_draw.2 ⟨rfl, ?_⟩
  simp only [fe_cons, fev_pure, execOp, opd, putT, put, nth, Nat.reduceAdd, Nat.zero_add]
  rw [fev_rd (k4.idx0 t86 s5 rfl (show bsz a < 35 by omega))]
  simp only [fe_cons, execOp, opd, putT, put, nth, Nat.reduceAdd]
  rw [fev_rd (k4.load0 ti5 rfl (show bsz a < 35 by omega))]
  simp only [fe_cons, fev_pure, core1, tyr, execOp, opd, ofValue, putT, put, nth, und, lenOf, bor, binInt, shiftB, intOp, wrapI, strK, intK, Nat.reduceAdd, decide_true, convert, convStr, isU8, c0, w1]
  rw [fev_rd (k4.idx0 t86 s5 rfl (show bsz a + 1 < 35 by omega))]
  simp only [fe_cons, execOp, opd, putT, put, nth, Nat.reduceAdd]
  rw [fev_rd (k4.load0 ti5 rfl (show bsz a + 1 < 35 by omega))]
  simp only [fe_cons, fev_pure, core1, tyr, execOp, opd, ofValue, putT, put, nth, und, lenOf, bor, binInt, shiftB, intOp, wrapI, strK, intK, Nat.reduceAdd, decide_true, convert, convStr, isU8, c1, c3, c5, w2]
  rw [fev_rd (k4.idx0 t86 s5 rfl (show bsz a + 2 < 35 by omega))]
  simp only [fe_cons, execOp, opd, putT, put, nth, Nat.reduceAdd]
  rw [fev_rd (k4.load0 ti5 rfl (show bsz a + 2 < 35 by omega))]
  simp only [fe_nil, fe_cons, fev_pure, core1, tyr, fgr, execOp, opd, ofValue, putT, put, nth, forgetL, und, lenOf, bor, binInt, shiftB, intOp, wrapI, strK, intK, Nat.reduceAdd, ge_iff_le, decide_true, convert, convStr, isU8, c2, c4, c6]
  refine ⟨(by (try simp (disch := omega) only [fine, List.all_cons, List.all_nil, clash_pr, clash_rr, Bool.not_false, Bool.true_or, Bool.and_true]); repeat' (first | rfl | exact (Bool.or_eq_true _ _).mpr (.inr rfl) | refine (Bool.and_eq_true _ _).mpr ⟨?_, ?_⟩)), ?_⟩
  have hml := mantV_lt a
  by_cases c : 8388608 ≤ mantV a
  · have ci : (8388608 : Int) ≤ ((mantV a : Nat) : Int) := by omega
    have dv : IntKind.u32.wrap (Int.tdiv ((mantV a : Nat) : Int) 256) = ((mantV a / 256 : Nat) : Int) := by rw [Int.tdiv_eq_ediv_of_nonneg (by omega), wu32 (by omega) (by omega)]; omega
    have cv : IntKind.u32.wrap ((bsz a + 1 : Nat) : Int) = ((bsz a + 1 : Nat) : Int) := wu32 (by omega) (by omega)
    have ml : IntKind.u32.wrap (((bsz a + 1 : Nat) : Int) * 16777216) = (((bsz a + 1) * 16777216 : Nat) : Int) := by rw [wu32 (by omega) (by omega)]; omega
    have ad : IntKind.u32.wrap ((((bsz a + 1) * 16777216 : Nat) : Int) + ((mantV a / 256 : Nat) : Int)) = ((compV a : Nat) : Int) := by
      unfold compV
      rw [if_pos c, wu32 (by omega) (by omega)]; omega
    simp only [core1, tyr, fgr, execOp, opd, ofValue, putT, put, nth, forgetL, und, lenOf, bor, binInt, shiftB, intOp, wrapI, strK, intK, Int.reduceNe, decide_true, true_and, convert, convStr, isU8, ci, dv, w1, cv, ml, ad, compA, if_neg h0]
    exact o4
  · have ci : ¬ (8388608 : Int) ≤ ((mantV a : Nat) : Int) := by omega
    have cv : IntKind.u32.wrap ((bsz a : Nat) : Int) = ((bsz a : Nat) : Int) := wu32 (by omega) (by omega)
    have ml : IntKind.u32.wrap (((bsz a : Nat) : Int) * 16777216) = (((bsz a) * 16777216 : Nat) : Int) := by rw [wu32 (by omega) (by omega)]; omega
    have ad : IntKind.u32.wrap ((((bsz a) * 16777216 : Nat) : Int) + ((mantV a : Nat) : Int)) = ((compV a : Nat) : Int) := by
      unfold compV
      rw [if_neg c, wu32 (by omega) (by omega)]; omega
    simp only [core1, tyr, fgr, execOp, opd, ofValue, putT, put, nth, forgetL, und, lenOf, bor, binInt, shiftB, intOp, wrapI, strK, intK, decide_true, decide_false, true_and, convert, convStr, isU8, ci, cv, ml, ad, compA, if_neg h0]
    exact o4
end Go.Am.Ytmlagocbphoedaa
