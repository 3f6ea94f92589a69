/- The functions that the statement reaches, gone through. -/
import Derived.Test.YtlgebaofkolkoaaEnv
set_option linter.unusedSimpArgs false
set_option linter.unusedVariables false
set_option linter.defProp false
set_option maxRecDepth 10000
namespace Go.Am.Ytlgebaofkolkoaa
open Go Go.Am Go.Proofs
/- Versions and their orders: the small functions. -/
def cmpI (a b : Int) : Int := if a < b then -1 else if b < a then 1 else 0
def orI (a b : Int) : Int := if a = 0 then b else a
theorem f122 (h : Hp) (n : Nat) (x : Int) : Wp (callI env (evalW env) 122 [.int .i64 x]) h n fun v' h' n' => v' = .bool false ∧ h' = h ∧ n' = n := by
  refine wp_callI ff122 fi122 ?_
  simp only [fu122, Try.f122, Option.getD_some, List.replicate, core1, fgr, execOp, opd, ofValue, putT, put, nth, forgetL, bor, binInt, shiftB, intOp, ended, resultOf, oneOrTup, List.cons_append, List.nil_append, List.length_cons, List.length_nil, Nat.reduceSub, decide_true, and_self, Nat.zero_add, wp_pure, bne_self_eq_false]
def c122 (h : Hp) (n : Nat) (x : Int) := opv_det (f122 h n x)
theorem f124 (h : Hp) (n : Nat) (x : Int) : Wp (callI env (evalW env) 124 [.int .u32 x]) h n fun v' h' n' => v' = .bool false ∧ h' = h ∧ n' = n := by
  refine wp_callI ff124 fi124 ?_
  simp only [fu124, Try.f124, Option.getD_some, List.replicate, core1, fgr, execOp, opd, ofValue, putT, put, nth, forgetL, bor, binInt, shiftB, intOp, ended, resultOf, oneOrTup, List.cons_append, List.nil_append, List.length_cons, List.length_nil, Nat.reduceSub, decide_true, and_self, Nat.zero_add, wp_pure, bne_self_eq_false]
def c124 (h : Hp) (n : Nat) (x : Int) := opv_det (f124 h n x)
theorem f118 (h : Hp) (n : Nat) (x y : Int) : Wp (callI env (evalW env) 118 [.int .i64 x, .int .i64 y]) h n fun v' h' n' => v' = .int .i64 (cmpI x y) ∧ h' = h ∧ n' = n := by
  refine wp_callI ff118 fi118 ?_
  by_cases h1 : x < y
  · simp only [fu118, Try.f118, Option.getD_some, List.replicate, core1, fgr, hkr, execOp, opd, opds, ofValue, putT, put, nth, forgetL, doCall, callV_func, bor, binInt, shiftB, intOp, ended, resultOf, oneOrTup, List.cons_append, List.nil_append, List.append_nil, List.length_cons, List.length_nil, Nat.reduceAdd, Nat.reduceSub, ↓reduceIte, Int.reduceNeg, decide_true, and_self, Nat.zero_add, wp_pure, c122, cmpI, h1]
  · by_cases h2 : y < x <;> simp only [fu118, Try.f118, Option.getD_some, List.replicate, core1, fgr, hkr, execOp, opd, opds, ofValue, putT, put, nth, forgetL, doCall, callV_func, bor, binInt, shiftB, intOp, ended, resultOf, oneOrTup, List.cons_append, List.nil_append, List.append_nil, List.length_cons, List.length_nil, Nat.reduceAdd, Nat.reduceSub, ↓reduceIte, Int.reduceNeg, gt_iff_lt, decide_true, decide_false, and_self, Nat.zero_add, wp_pure, c122, cmpI, h1, h2]
theorem f121 (h : Hp) (n : Nat) (x y : Int) : Wp (callI env (evalW env) 121 [.int .u32 x, .int .u32 y]) h n fun v' h' n' => v' = .int .i64 (cmpI x y) ∧ h' = h ∧ n' = n := by
  refine wp_callI ff121 fi121 ?_
  by_cases h1 : x < y
  · simp only [fu121, Try.f121, Option.getD_some, List.replicate, core1, fgr, hkr, execOp, opd, opds, ofValue, putT, put, nth, forgetL, doCall, callV_func, bor, binInt, shiftB, intOp, ended, resultOf, oneOrTup, List.cons_append, List.nil_append, List.append_nil, List.length_cons, List.length_nil, Nat.reduceAdd, Nat.reduceSub, ↓reduceIte, Int.reduceNeg, decide_true, and_self, Nat.zero_add, wp_pure, c124, cmpI, h1]
  · by_cases h2 : y < x <;> simp only [fu121, Try.f121, Option.getD_some, List.replicate, core1, fgr, hkr, execOp, opd, opds, ofValue, putT, put, nth, forgetL, doCall, callV_func, bor, binInt, shiftB, intOp, ended, resultOf, oneOrTup, List.cons_append, List.nil_append, List.append_nil, List.length_cons, List.length_nil, Nat.reduceAdd, Nat.reduceSub, ↓reduceIte, Int.reduceNeg, gt_iff_lt, decide_true, decide_false, and_self, Nat.zero_add, wp_pure, c124, cmpI, h1, h2]
theorem u147 : und env 147 = M.pure (.slice 3) := rfl
theorem z3 : sizeOf env 3 = M.pure 1 := rfl
theorem f63 (id : Nat) (a b : Int) (e : TypeId) (h : Hp) (n : Nat) (hr : h id = some (.row (.l [.int .i64 a, .int .i64 b]) e)) : Wp (callI env (evalW env) 63 [.sl id 0 2 (some 2) 1]) h n fun v' h' n' => v' = .int .i64 (orI a b) ∧ h' = h ∧ n' = n := by
  refine wp_callI ff63 fi63 ?_
  have hs : Rds h 1 (.sl id 0 2 (some 2) 1) 2 [.int .i64 a, .int .i64 b] := row_rds hr rfl
  have i0 := hs.idx (E := env) u147 z3 (kk := .i64) (z := 0) (j := 0) rfl (by omega) (h' := h) (n' := n)
  have i1 := hs.idx (E := env) u147 z3 (kk := .i64) (z := 1) (j := 1) rfl (by omega) (h' := h) (n' := n)
  have l0 := hs.load (E := env) ti3 rfl (k := 0 * 1) (n := n) rfl
  have l1 := hs.load (E := env) ti3 rfl (k := 1 * 1) (n := n) rfl
  have w1 : IntKind.i64.wrap 1 = 1 := by decide
  have w2 : IntKind.i64.wrap 2 = 2 := by decide
  by_cases ha : a = 0
  · subst ha
    by_cases hb : b = 0
    · subst hb
      simp only [fu63, Try.f63, Option.getD_some, List.replicate, core1, fgr, execOp, opd, opds, ofValue, putT, put, nth, forgetL, doCall, builtin, one1, blr, bor, binInt, shiftB, intOp, wrapI, ended, resultOf, oneOrTup, List.cons_append, List.nil_append, List.length_cons, List.length_nil, Nat.reduceSub, Int.cast_ofNat_Int, ↓reduceIte, Int.reduceLT, Int.reduceAdd, decide_true, decide_false, and_self, Nat.zero_add, Nat.zero_mul, wp_pure, bne_self_eq_false, run_loop, opv_rd i0, opv_rd i1, opv_rd l0, opv_rd l1, orI, w1, w2]
    · simp only [fu63, Try.f63, Option.getD_some, List.replicate, core1, fgr, execOp, opd, opds, ofValue, putT, put, nth, forgetL, doCall, builtin, one1, blr, bor, binInt, shiftB, intOp, wrapI, ended, resultOf, oneOrTup, List.cons_append, List.nil_append, List.length_cons, List.length_nil, Nat.reduceSub, Int.cast_ofNat_Int, int_bne, ↓reduceIte, Int.reduceLT, Int.reduceAdd, not_false_eq_true, decide_true, and_self, Nat.zero_add, Nat.zero_mul, wp_pure, bne_self_eq_false, run_loop, opv_rd i0, opv_rd i1, opv_rd l0, opv_rd l1, orI, w1, hb]
  · simp only [fu63, Try.f63, Option.getD_some, List.replicate, core1, fgr, execOp, opd, opds, ofValue, putT, put, nth, forgetL, doCall, builtin, one1, blr, bor, binInt, shiftB, intOp, ended, resultOf, oneOrTup, List.cons_append, List.nil_append, List.length_cons, List.length_nil, Nat.reduceSub, Int.cast_ofNat_Int, int_bne, ↓reduceIte, Int.reduceLT, not_false_eq_true, decide_true, and_self, Nat.zero_add, Nat.zero_mul, wp_pure, run_loop, opv_rd i0, opv_rd l0, orI, ha]
/-- A version. -/
structure Ver where
  hash : List UInt8
  pn : Int
  made : Int
  value : Int
  script : List UInt8
  base : Bool
  spent : Int
  by_ : List UInt8
def pcells (hash : List UInt8) (pn : Int) : List AVal := hash.map u8 ++ [.int .u32 pn]
def vtail (v : Ver) (sv : AVal) : List AVal := [.int .i64 v.made, .int .i64 v.value, sv, .bool v.base, .int .i64 v.spent] ++ v.by_.map u8
def vcells (v : Ver) (sv : AVal) : List AVal := pcells v.hash v.pn ++ vtail v sv
theorem pcells_len {hash : List UInt8} {pn : Int} (h : hash.length = 32) : (pcells hash pn).length = 33 := by simp [pcells, h]
theorem pcells_n {hash : List UInt8} {pn : Int} (h : hash.length = 32) : (pcells hash pn)[32]? = some (.int .u32 pn) := by
  unfold pcells
  rw [List.getElem?_append_right (by rw [List.length_map]; omega), List.length_map, h]; rfl
theorem pcells_one (hash : List UInt8) (pn : Int) : (pcells hash pn).all oneCell = true := by
  unfold pcells
  rw [List.all_append, u8_one]; rfl
theorem vcells_len {v : Ver} {sv : AVal} (h : v.hash.length = 32) (h2 : v.by_.length = 32) : (vcells v sv).length = 70 := by
  unfold vcells
  rw [List.length_append, pcells_len h]
  simp [vtail, h2]
theorem vcells_p {v : Ver} {sv : AVal} (h : v.hash.length = 32) : (vcells v sv).take 33 = pcells v.hash v.pn := by
  unfold vcells
  rw [List.take_append_of_le_length (by rw [pcells_len h]; omega), List.take_of_length_le (by rw [pcells_len h]; omega)]
theorem vcells_t {v : Ver} {sv : AVal} (h : v.hash.length = 32) (k : Nat) : (vcells v sv)[33 + k]? = (vtail v sv)[k]? := by
  unfold vcells
  rw [List.getElem?_append_right (by rw [pcells_len h]; omega), pcells_len h]
  congr 1; omega
/-- The order of outpoints; of versions; of scripts. -/
def cmpP (h1 : List UInt8) (n1 : Int) (h2 : List UInt8) (n2 : Int) : Int := orI (Lib.compareBytes h1 h2) (cmpI n1 n2)
def cmpV (v w : Ver) : Int := orI (cmpP v.hash v.pn w.hash w.pn) (cmpI v.made w.made)
def cmpS (v w : Ver) : Int := orI (Lib.compareBytes v.script w.script) (cmpV v w)
theorem u25 : und env 25 = M.pure (.array 32 5) := rfl
theorem z5 : sizeOf env 5 = M.pure 1 := rfl
theorem arr_sl {id : Nat} {h' : Hp} {n' : Nat} : Rd (slice env 25 (.ptr id 0) none none none) h' n' [] (.sl id 0 32 (some 32) 1) := by
  simp only [slice, u25, z5, bind_pure, bound, Nat.zero_mul, Nat.add_zero, Nat.sub_zero]
  exact Rd.pure _
theorem hash_bytes {h : Hp} {id : Nat} {xs : List AVal} {l : List UInt8} (hr : Row h id xs) (hl : l.length = 32) (ht : xs.take 32 = l.map u8) (hx : 32 ≤ xs.length) : Bytes h (.sl id 0 32 (some 32) 1) l := by
  obtain ⟨e, he⟩ := hr
  have := Bytes.sl (h := h) id 0 (some 32) (.l xs) e l he (by show 0 + l.length ≤ xs.length; omega) (fun j hj => by
    have hj2 : j < xs.length := by omega
    rw [Nat.zero_add, Cont.at_l hj2]
    have h1 : (xs.take 32)[j]? = (l.map u8)[j]? := by rw [ht]
    rw [List.getElem?_take, if_pos (by omega), List.getElem?_eq_getElem hj2, List.getElem?_map, List.getElem?_eq_getElem hj] at h1
    injection h1)
  rwa [hl] at this
theorem f117 (h1 h2 : List UInt8) (n1 n2 : Int) (l1 : h1.length = 32) (l2 : h2.length = 32) (h : Hp) (n : Nat) (hf : Free h n) :
    Wp (callI env (evalW env) 117 [.agg (pcells h1 n1), .agg (pcells h2 n2)]) h n fun v' h' n' => v' = .int .i64 (cmpP h1 n1 h2 n2) ∧ Old h h' n := by
  refine wp_callI ff117 fi117 ?_
  simp only [fu117, Try.f117, Option.getD_some, List.replicate, core1, execOp, opd, nth, ended, resultOf, oneOrTup, List.cons_append, List.nil_append, List.length_cons, List.length_nil, Nat.reduceAdd, Nat.reduceSub, Nat.zero_add, wp_pure]
  refine opv_box (v := .agg (pcells h1 n1)) ti28 rfl hf fun H1 r1 o1 f1 => ?_
  simp only [core1, execOp, opd, putT, put, nth]
  refine opv_box (v := .agg (pcells h2 n2)) ti28 rfl f1 fun H2 r2 o2 f2 => ?_
  simp only [core1, fgr, execOp, opd, ofValue, putT, put, forgetL]
  have r1' : Row H2 n (pcells h1 n1) := r1.keep (o2 n (by omega))
  have r2' : Row H2 (n + 1) (pcells h2 n2) := r2
  have b1 := hash_bytes r1' l1 (by unfold pcells; rw [List.take_append_of_le_length (by simp [l1]), List.take_of_length_le (by simp [l1])]) (by rw [pcells_len l1]; omega)
  have b2 := hash_bytes r2' l2 (by unfold pcells; rw [List.take_append_of_le_length (by simp [l2]), List.take_of_length_le (by simp [l2])]) (by rw [pcells_len l2]; omega)
  refine run_draw.2 ⟨rfl, ?_⟩
  simp only [fe_cons, fev_pure, core1, tyr, execOp, opd, opt, putT, put, nth, und, sizeOf, getO, moved, fieldAddr, List.getElem?_cons_zero, Nat.zero_add]
  rw [fev_rd arr_sl]
  simp only [fe_cons, fev_pure, core1, tyr, execOp, opd, opt, putT, put, nth, und, sizeOf, getO, moved, fieldAddr, List.getElem?_cons_zero, Nat.reduceAdd, Nat.zero_add]
  rw [fev_rd arr_sl]
  simp only [fe_cons, hkr, execOp, opd, opds, putT, put, nth, doCall, callV_func, List.nil_append, List.append_nil, Nat.reduceAdd]
  rw [fev_rd (compare_rd b1 b2)]
  simp only [fe_cons, fev_pure, core1, tyr, execOp, opd, putT, put, nth, und, sizeOf, getO, moved, fieldAddr, List.getElem?_cons_succ, List.getElem?_cons_zero, Nat.reduceAdd, Nat.zero_add]
  rw [fev_rd (r1'.one (pcells_n l1) ti26 rfl)]
  simp only [fe_cons, fev_pure, core1, tyr, execOp, opd, putT, put, nth, und, sizeOf, getO, moved, fieldAddr, List.getElem?_cons_succ, List.getElem?_cons_zero, Nat.reduceAdd, Nat.zero_add]
  rw [fev_rd (r2'.one (pcells_n l2) ti26 rfl)]
  simp only [fe_cons, hkr, execOp, opd, opds, putT, put, nth, doCall, callV_func, List.nil_append, List.append_nil, Nat.reduceAdd]
  refine fev_free f2 (f121 (fun _ => none) _ n1 n2) (f121 H2 _ n1 n2) fun v3 h3 n3 hn3 f3 ⟨e1, e2, e3⟩ => ?_
  subst e1; subst e2; subst e3
  simp only [fe_cons, core1, tyr, execOp, opd, ops2, putT, put, nth, und, cel, getO, List.cons_append, List.nil_append, List.append_nil, List.length_cons, List.length_nil, Nat.reduceAdd, Nat.beq, Bool.not_false, Bool.and_true, Bool.true_and, Nat.zero_add, Nat.zero_mul, buildSlice, reps, fill, List.take_succ_cons, List.take_zero, List.drop_succ_cons, List.drop_zero, Nat.ble, Nat.one_mul, List.length_cons, List.length_nil, Nat.zero_mul]
  refine fev_row' ti3 f3 fun H4 r4 o4 f4 => ?_
  simp only [fe_cons, hkr, execOp, opd, opds, putT, put, nth, doCall, callV_func, List.nil_append, List.append_nil, Nat.reduceAdd]
  refine fev_any f4 (f63 _ _ _ _ _ _ r4) fun v5 h5 n5 r5 w5 hn5 f5 ⟨e1, e2, e3⟩ => ?_
  subst e1; subst e2; subst e3
  simp only [fe_nil, fe_cons, fev_pure, core1, fgr, execOp, opd, putT, put, nth, forgetL, Nat.reduceAdd, true_and]
  refine ⟨(by (try simp (disch := first | assumption | omega) only [fine, List.all_cons, List.all_nil, clash_pl, clash_pr, clash_rr, Bool.not_false, Bool.true_or, Bool.and_true, Bool.true_and, clash_xn]); repeat' (first | rfl | exact (Bool.or_eq_true _ _).mpr (.inr rfl) | refine (Bool.and_eq_true _ _).mpr ⟨?_, ?_⟩)), ?_⟩
  exact ⟨rfl, fun j hj => by rw [o4 j (by omega), o2 j (by omega), o1 j (by omega)]⟩
/-- A version whose hashes are hashes. -/
structure Ver.Ok (v : Ver) : Prop where
  h : v.hash.length = 32
  b : v.by_.length = 32
theorem row_pt {h : Hp} {n id : Nat} {v : Ver} {sv : AVal} (hr : Row h id (vcells v sv)) (ho : v.Ok) : Rd (load env 28 (.ptr id 0)) h n [id] (.agg (pcells v.hash v.pn)) := by
  have := hr.agg (E := env) (n := n) (off := 0) ti28 rfl (by rw [vcells_len ho.h ho.b]; decide)
  rw [List.drop_zero] at this
  have e : (vcells v sv).take 33 = pcells v.hash v.pn := vcells_p ho.h
  exact e ▸ this
theorem row_all {h : Hp} {n id : Nat} {v : Ver} {sv : AVal} (hr : Row h id (vcells v sv)) (ho : v.Ok) : Rd (load env 31 (.ptr id 0)) h n [id] (.agg (vcells v sv)) := hr.whole ti31 rfl (vcells_len ho.h ho.b)
theorem row_made {h : Hp} {n id : Nat} {v : Ver} {sv : AVal} (hr : Row h id (vcells v sv)) (ho : v.Ok) : Rd (load env 3 (.ptr id 33)) h n [id] (.int .i64 v.made) := hr.one (vcells_t ho.h 0) ti3 rfl
theorem row_value {h : Hp} {n id : Nat} {v : Ver} {sv : AVal} (hr : Row h id (vcells v sv)) (ho : v.Ok) : Rd (load env 2 (.ptr id 34)) h n [id] (.int .i64 v.value) := hr.one (vcells_t ho.h 1) ti2 rfl
theorem row_script {h : Hp} {n id : Nat} {v : Ver} {sv : AVal} (hr : Row h id (vcells v sv)) (ho : v.Ok) : Rd (load env 29 (.ptr id 35)) h n [id] sv := hr.one (vcells_t ho.h 2) ti29 rfl
theorem row_spent {h : Hp} {n id : Nat} {v : Ver} {sv : AVal} (hr : Row h id (vcells v sv)) (ho : v.Ok) : Rd (load env 3 (.ptr id 37)) h n [id] (.int .i64 v.spent) := hr.one (vcells_t ho.h 4) ti3 rfl
theorem f107 (v w : Ver) (sv sw : AVal) (ov : v.Ok) (ow : w.Ok) (h : Hp) (n : Nat) (hf : Free h n) :
    Wp (callI env (evalW env) 107 [.agg (vcells v sv), .agg (vcells w sw)]) h n fun v' h' n' => v' = .int .i64 (cmpV v w) ∧ Old h h' n := by
  refine wp_callI ff107 fi107 ?_
  simp only [fu107, Try.f107, Option.getD_some, List.replicate, core1, execOp, opd, nth, ended, resultOf, oneOrTup, List.cons_append, List.nil_append, List.length_cons, List.length_nil, Nat.reduceAdd, Nat.reduceSub, Nat.zero_add, wp_pure]
  refine opv_box (v := .agg (vcells v sv)) ti31 rfl hf fun H1 r1 o1 f1 => ?_
  simp only [core1, execOp, opd, putT, put, nth]
  refine opv_box (v := .agg (vcells w sw)) ti31 rfl f1 fun H2 r2 o2 f2 => ?_
  simp only [core1, fgr, execOp, opd, ofValue, putT, put, forgetL]
  have r1' : Row H2 n (vcells v sv) := r1.keep (o2 n (by omega))
  have r2' : Row H2 (n + 1) (vcells w sw) := r2
  refine run_draw.2 ⟨rfl, ?_⟩
  simp only [fe_cons, fev_pure, core1, tyr, execOp, opd, putT, put, nth, und, sizeOf, getO, moved, fieldAddr, List.getElem?_cons_zero, Nat.zero_add]
  rw [fev_rd (row_pt r1' ov)]
  simp only [fe_cons, fev_pure, core1, tyr, execOp, opd, putT, put, nth, und, sizeOf, getO, moved, fieldAddr, List.getElem?_cons_zero, Nat.reduceAdd, Nat.zero_add]
  rw [fev_rd (row_pt r2' ow)]
  simp only [fe_cons, hkr, execOp, opd, opds, putT, put, nth, doCall, callV_func, List.nil_append, List.append_nil, Nat.reduceAdd]
  refine fev_free f2 (f117 v.hash w.hash v.pn w.pn ov.h ow.h (fun _ => none) _ (fun _ _ => rfl)) (f117 v.hash w.hash v.pn w.pn ov.h ow.h H2 _ f2) fun v3 h3 n3 hn3 f3 ⟨e3, o3⟩ => ?_
  subst e3
  simp only [fe_cons, fev_pure, core1, tyr, execOp, opd, putT, put, nth, und, sizeOf, getO, moved, fieldAddr, List.getElem?_cons_succ, List.getElem?_cons_zero, Nat.reduceAdd, Nat.zero_add]
  have r1' := r1'.keep (o3 n (by omega))
  have r2' := r2'.keep (o3 (n + 1) (by omega))
  rw [fev_rd (row_made r1' ov)]
  simp only [fe_cons, fev_pure, core1, tyr, execOp, opd, putT, put, nth, und, sizeOf, getO, moved, fieldAddr, List.getElem?_cons_succ, List.getElem?_cons_zero, Nat.reduceAdd, Nat.zero_add]
  rw [fev_rd (row_made r2' ow)]
  simp only [fe_cons, hkr, execOp, opd, opds, putT, put, nth, doCall, callV_func, List.nil_append, List.append_nil, Nat.reduceAdd]
  refine fev_free f3 (f118 (fun _ => none) _ v.made w.made) (f118 h3 _ v.made w.made) fun v3 h3 n3 hn3 f3 ⟨e1, e2, e3⟩ => ?_
  subst e1; subst e2; subst e3
  simp only [fe_cons, core1, tyr, execOp, opd, ops2, putT, put, nth, und, cel, getO, List.cons_append, List.nil_append, List.append_nil, List.length_cons, List.length_nil, Nat.reduceAdd, Nat.beq, Bool.not_false, Bool.and_true, Bool.true_and, Nat.zero_add, Nat.zero_mul, buildSlice, reps, fill, List.take_succ_cons, List.take_zero, List.drop_succ_cons, List.drop_zero, Nat.ble, Nat.one_mul, List.length_cons, List.length_nil, Nat.zero_mul]
  refine fev_row' ti3 f3 fun H4 r4 o4 f4 => ?_
  simp only [fe_cons, hkr, execOp, opd, opds, putT, put, nth, doCall, callV_func, List.nil_append, List.append_nil, Nat.reduceAdd]
  refine fev_any f4 (f63 _ _ _ _ _ _ r4) fun v5 h5 n5 r5 w5 hn5 f5 ⟨e1, e2, e3⟩ => ?_
  subst e1; subst e2; subst e3
  simp only [fe_nil, fe_cons, fev_pure, core1, fgr, execOp, opd, putT, put, nth, forgetL, Nat.reduceAdd, true_and]
  refine ⟨(by (try simp (disch := first | assumption | omega) only [fine, List.all_cons, List.all_nil, clash_pl, clash_pr, clash_rr, Bool.not_false, Bool.true_or, Bool.and_true, Bool.true_and, clash_nn, clash_xn, clash_nx]); repeat' (first | rfl | exact (Bool.or_eq_true _ _).mpr (.inr rfl) | refine (Bool.and_eq_true _ _).mpr ⟨?_, ?_⟩)), ?_⟩
  exact ⟨rfl, fun j hj => by rw [o4 j (by omega), o3 j (by omega), o2 j (by omega), o1 j (by omega)]⟩
/- Pointers to versions, held against one another; copies of versions. -/
theorem t29 : und env 29 = M.pure (.slice 5) := rfl
theorem t9 : und env 9 = M.pure .string := rfl
theorem t5 : und env 5 = M.pure (.int .u8) := rfl
theorem s5 : sizeOf env 5 = M.pure 1 := rfl
/-- A version behind an address. -/
structure At (h : Hp) (id : Nat) (sv : AVal) (v : Ver) : Prop where
  row : Row h id (vcells v sv)
  s : Bytes h sv v.script
  ok : v.Ok
theorem At.keep {h h' : Hp} {id : Nat} {sv : AVal} {v : Ver} (a : At h id sv v) (hi : h' id = h id) (hs : ∀ j, ownId sv = some j → h' j = h j) : At h' id sv v := ⟨a.row.keep hi, a.s.keep hs, a.ok⟩
/-- What is behind it lies below n. -/
structure AtN (h : Hp) (n : Nat) (id : Nat) (sv : AVal) (v : Ver) : Prop extends At h id sv v where
  idn : id < n
  sn : ∀ j, ownId sv = some j → j < n
theorem AtN.old {h h' : Hp} {n n' : Nat} {id : Nat} {sv : AVal} {v : Ver} (a : AtN h n id sv v) (hn : n ≤ n') (ho : Old h h' n) : AtN h' n' id sv v :=
  ⟨a.toAt.keep (ho id a.idn) (fun j hj => ho j (a.sn j hj)), by have := a.idn; omega, fun j hj => by have := a.sn j hj; omega⟩
theorem f84 (a b : Nat) (sa sb : AVal) (v w : Ver) (h : Hp) (n : Nat) (ha : AtN h n a sa v) (hb : AtN h n b sb w) (hf : Free h n) :
    Wp (callI env (evalW env) 84 [.ptr a 0, .ptr b 0]) h n fun v' h' n' => v' = .int .i64 (cmpV v w) ∧ Old h h' n := by
  refine wp_callI ff84 fi84 ?_
  simp only [fu84, Try.f84, Option.getD_some, List.replicate, core1, fgr, execOp, opd, ofValue, putT, put, forgetL, ended, resultOf, oneOrTup, List.cons_append, List.nil_append, List.length_cons, List.length_nil, Nat.reduceAdd, Nat.reduceSub, Nat.zero_add, wp_pure]
  refine run_draw.2 ⟨rfl, ?_⟩
  simp only [fe_cons, fev_pure, execOp, opd, putT, put, nth, nilCheck, Nat.reduceAdd, Nat.zero_add]
  rw [fev_rd (row_all ha.row ha.ok)]
  simp only [fe_cons, fev_pure, execOp, opd, putT, put, nth, nilCheck, Nat.reduceAdd]
  rw [fev_rd (row_all hb.row hb.ok)]
  simp only [fe_cons, hkr, execOp, opd, opds, putT, put, nth, doCall, callV_func, List.nil_append, List.append_nil, Nat.reduceAdd]
  refine fev_any hf (f107 v w sa sb ha.ok hb.ok h n hf) fun v5 h5 n5 r5 w5 hn5 f5 ⟨e1, o1⟩ => ?_
  subst e1
  simp only [fe_nil, fe_cons, fev_pure, core1, fgr, execOp, opd, putT, put, nth, forgetL, Nat.reduceAdd, true_and]
  refine ⟨(by (try simp (disch := first | assumption | omega) only [fine, List.all_cons, List.all_nil, clash_pl, clash_pr, clash_rr, Bool.not_false, Bool.true_or, Bool.and_true, Bool.true_and]); repeat' (first | rfl | exact (Bool.or_eq_true _ _).mpr (.inr rfl) | refine (Bool.and_eq_true _ _).mpr ⟨?_, ?_⟩)), ?_⟩
  exact o1
theorem f85 (a b : Nat) (sa sb : AVal) (v w : Ver) (h : Hp) (n : Nat) (ha : AtN h n a sa v) (hb : AtN h n b sb w) (hf : Free h n) :
    Wp (callI env (evalW env) 85 [.ptr a 0, .ptr b 0]) h n fun v' h' n' => v' = .int .i64 (cmpS v w) ∧ Old h h' n := by
  refine wp_callI ff85 fi85 ?_
  simp only [fu85, Try.f85, Option.getD_some, List.replicate, core1, fgr, execOp, opd, ofValue, putT, put, forgetL, ended, resultOf, oneOrTup, List.cons_append, List.nil_append, List.length_cons, List.length_nil, Nat.reduceAdd, Nat.reduceSub, Nat.zero_add, wp_pure]
  refine run_draw.2 ⟨rfl, ?_⟩
  simp only [fe_cons, fev_pure, core1, tyr, execOp, opd, putT, put, nth, und, sizeOf, nilCheck, getO, moved, fieldAddr, List.getElem?_cons_succ, List.getElem?_cons_zero, Nat.reduceAdd, Nat.zero_add]
  rw [fev_rd (row_script ha.row ha.ok)]
  simp only [fe_cons, fev_pure, core1, tyr, execOp, opd, putT, put, nth, und, sizeOf, nilCheck, getO, moved, fieldAddr, List.getElem?_cons_succ, List.getElem?_cons_zero, Nat.reduceAdd, Nat.zero_add]
  rw [fev_rd (row_script hb.row hb.ok)]
  simp only [fe_cons, hkr, execOp, opd, opds, putT, put, nth, doCall, callV_func, List.nil_append, List.append_nil, Nat.reduceAdd]
  rw [fev_rd (compare_rd ha.s hb.s)]
  simp only [fe_cons, fev_pure, hkr, execOp, opd, opds, putT, put, nth, doCall, callV_func, List.nil_append, List.append_nil, Nat.reduceAdd]
  refine fev_any hf (f84 a b sa sb v w h n ha hb hf) fun v5 h5 n5 r5 w5 hn5 f5 ⟨e1, o1⟩ => ?_
  subst e1
  simp only [fe_cons, core1, tyr, execOp, opd, ops2, putT, put, nth, und, cel, getO, List.cons_append, List.nil_append, List.append_nil, List.length_cons, List.length_nil, Nat.reduceAdd, Nat.beq, Bool.not_false, Bool.and_true, Bool.true_and, Nat.zero_add, Nat.zero_mul, buildSlice, reps, fill, List.take_succ_cons, List.take_zero, List.drop_succ_cons, List.drop_zero, Nat.ble, Nat.one_mul, List.length_cons, List.length_nil, Nat.zero_mul]
  refine fev_row' ti3 f5 fun H4 r4 o4 f4 => ?_
  simp only [fe_cons, hkr, execOp, opd, opds, putT, put, nth, doCall, callV_func, List.nil_append, List.append_nil, Nat.reduceAdd]
  refine fev_any f4 (f63 _ _ _ _ _ _ r4) fun v6 h6 n6 r6 w6 hn6 f6 ⟨e1, e2, e3⟩ => ?_
  subst e1; subst e2; subst e3
  simp only [fe_nil, fe_cons, fev_pure, core1, fgr, execOp, opd, putT, put, nth, forgetL, Nat.reduceAdd, true_and]
  refine ⟨(by (try simp (disch := first | assumption | omega) only [fine, List.all_cons, List.all_nil, clash_pl, clash_pr, clash_rr, Bool.not_false, Bool.true_or, Bool.and_true, Bool.true_and]); repeat' (first | rfl | exact (Bool.or_eq_true _ _).mpr (.inr rfl) | refine (Bool.and_eq_true _ _).mpr ⟨?_, ?_⟩)), ?_⟩
  exact ⟨rfl, fun j hj => by rw [o4 j (by omega), o1 j hj]⟩
/-- Is it there at a height? -/
def there (v : Ver) (z : Int) : Bool := decide (v.made ≤ z) && (decide (v.spent = 0) || decide (z < v.spent))
theorem f82 (v : Ver) (sv : AVal) (ov : v.Ok) (z : Int) (h : Hp) (n : Nat) (hf : Free h n) :
    Wp (callI env (evalW env) 82 [.agg (vcells v sv), .int .i64 z]) h n fun v' h' n' => v' = .bool (there v z) ∧ Old h h' n := by
  refine wp_callI ff82 fi82 ?_
  simp only [fu82, Try.f82, Option.getD_some, List.replicate, core1, execOp, opd, nth, ended, resultOf, oneOrTup, List.cons_append, List.nil_append, List.length_cons, List.length_nil, Nat.reduceAdd, Nat.reduceSub, Nat.zero_add, wp_pure]
  refine opv_box (v := .agg (vcells v sv)) ti31 rfl hf fun H1 r1 o1 f1 => ?_
  simp only [core1, tyr, fgr, execOp, opd, ofValue, putT, put, nth, forgetL, und, sizeOf, bor, binInt, shiftB, intOp, getO, moved, fieldAddr, List.getElem?_cons_succ, List.getElem?_cons_zero, decide_true, Nat.zero_add, opv_rd (row_made r1 ov)]
  by_cases c1 : v.made ≤ z
  · by_cases c2 : v.spent = 0
    · simp only [core1, tyr, fgr, execOp, opd, ofValue, putT, put, nth, forgetL, und, sizeOf, bor, binInt, shiftB, intOp, doPick, branch, getO, moved, fieldAddr, List.getElem?_cons_succ, List.getElem?_cons_zero, decide_true, true_and, Nat.zero_add, beq_self_eq_true, opv_rd (row_spent r1 ov), c1, c2]
      exact ⟨by simp [there, c1, c2], fun j hj => o1 j (by omega)⟩
    · by_cases c3 : z < v.spent
      · simp only [core1, tyr, fgr, execOp, opd, ofValue, putT, put, nth, forgetL, und, sizeOf, bor, binInt, shiftB, intOp, doPick, branch, getO, moved, fieldAddr, List.getElem?_cons_succ, List.getElem?_cons_zero, int_beq, gt_iff_lt, decide_true, decide_false, true_and, Nat.zero_add, opv_rd (row_spent r1 ov), c1, c2, c3]
        exact ⟨by simp [there, c1, c2, c3], fun j hj => o1 j (by omega)⟩
      · simp only [core1, tyr, fgr, execOp, opd, ofValue, putT, put, nth, forgetL, und, sizeOf, bor, binInt, shiftB, intOp, doPick, branch, getO, moved, fieldAddr, List.getElem?_cons_succ, List.getElem?_cons_zero, int_beq, gt_iff_lt, decide_true, decide_false, true_and, Nat.zero_add, opv_rd (row_spent r1 ov), c1, c2, c3]
        exact ⟨by simp [there, c1, c2, c3], fun j hj => o1 j (by omega)⟩
  · simp only [core1, opg_un, fgr, execOp, opd, ofValue, putT, put, nth, forgetL, doPick, branch, List.getElem?_cons_succ, List.getElem?_cons_zero, decide_false, true_and, c1]
    exact ⟨by simp [there, c1], fun j hj => o1 j (by omega)⟩
/-- A copy of bytes. -/
theorem f90 (v : AVal) (l : List UInt8) (h : Hp) (n : Nat) (hb : Bytes h v l) (hl : l.length ≤ 1000000) (hf : Free h n) : Wp (callI env (evalW env) 90 [v]) h n fun v' h' n' => Bytes h' v' l ∧ (∀ j, ownId v' = some j → n ≤ j ∧ j < n') ∧ Old h h' n := by
  refine wp_callI ff90 fi90 ?_
  simp only [fu90, Try.f90, Option.getD_some, List.replicate, core1, fgr, execOp, opd, ofValue, putT, put, nth, forgetL, ended, resultOf, oneOrTup, List.cons_append, List.nil_append, List.length_cons, List.length_nil, Nat.reduceSub, Nat.zero_add, wp_pure, hb.eqNil t29]
  cases hnil : isNils v with
  | true =>
    simp only [core1, fgr, execOp, opd, ofValue, putT, put, nth, forgetL, true_and]
    have := hb.nil.2 hnil
    subst this
    exact ⟨.nils, (fun j hj => by cases hj), Old.refl _ _⟩
  | false =>
    simp only [core1, tyr, execOp, opd, opds, ops2, putT, put, nth, doCall, builtin, two2, und, newRow, getO, Nat.zero_mul, buildSlice, reps, fill, Nat.ble, Nat.zero_mul]
    refine opv_lst_append (i := ⟨.int .u8, 1, 1, .int .u8 0⟩) (e := 5) (cnt := 0) (xs := []) (lst_new (upd_same _ _ _) rfl (fun k hk => by injection hk with hk; exact hk.symm)) ((hb.keep fun j hj => ?_).rds) t29 t29 ti5 (u8_one l) (by decide) (by show 2 * (0 + l.length) * 1 ≤ _; omega) (by omega) hf.new ?_
    · rw [upd_ne]
      intro e
      cases hb with
      | nils => cases hj
      | isl => cases hj
      | sl id off cap c e2 l hh hs hc => injection hj with hj; subst hj; subst e; rw [hf _ (Nat.le_refl _)] at hh; cases hh
    · intro v' h' n' hn hf' ho hid hold
      simp only [core1, fgr, execOp, opd, putT, put, nth, forgetL, true_and]
      rw [List.nil_append] at ho
      refine ⟨ho.rds.bytes (by intro e; subst e; cases ho), fun j hj => ?_, fun j hj => ?_⟩
      · rcases hid with q | ⟨q, q2⟩
        · rw [q] at hj; injection hj with hj; subst hj; exact ⟨Nat.le_refl _, by omega⟩
        · rw [q] at hj; injection hj with hj; omega
      · rw [hold j (by omega) (fun e => by injection e with e; omega), upd_ne _ _ (by omega)]
theorem vcells_cell {v : Ver} {sv : AVal} (h1 : oneCell sv = true) : (vcells v sv).all oneCell = true := by
  unfold vcells vtail
  rw [List.all_append, pcells_one, List.all_append, u8_one]
  simp only [List.all_cons, List.all_nil, h1, Bool.and_true]
  rfl
theorem vsplice_s {v : Ver} {sv s' : AVal} (h : v.hash.length = 32) : splice (vcells v sv) 35 [s'] = vcells v s' := by
  unfold splice vcells
  have hl := pcells_len (pn := v.pn) h
  rw [List.take_append, List.drop_append, hl, List.take_of_length_le (by rw [hl]; omega), List.drop_eq_nil_of_le (by rw [hl]; simp)]
  simp only [List.length_singleton, vtail, List.append_assoc]
  rfl
/-- A copy of a version. -/
theorem f77 (v : Ver) (sv : AVal) (ov : v.Ok) (h : Hp) (n : Nat) (hs : Bytes h sv v.script) (hsn : ∀ j, ownId sv = some j → j < n) (hl : v.script.length ≤ 1000000) (hf : Free h n) :
    Wp (callI env (evalW env) 77 [.agg (vcells v sv)]) h n fun v' h' n' => ∃ s', v' = .agg (vcells v s') ∧ Bytes h' s' v.script ∧ (∀ j, ownId s' = some j → n ≤ j ∧ j < n') ∧ Old h h' n := by
  refine wp_callI ff77 fi77 ?_
  simp only [fu77, Try.f77, Option.getD_some, List.replicate, core1, execOp, opd, nth, ended, resultOf, oneOrTup, List.cons_append, List.nil_append, List.length_cons, List.length_nil, Nat.reduceSub, Nat.zero_add]
  refine opv_box (v := .agg (vcells v sv)) ti31 rfl hf fun H1 r1 o1 f1 => ?_
  simp only [core1, execOp, putT, put]
  rw [opv_alloc ti31 rfl]
  obtain ⟨H2, hH2⟩ : ∃ H2, H2 = upd H1 (n + 1) (some (Blk.row (Cont.l ty31.i.zero.cells) 31)) := ⟨_, rfl⟩
  have f2 : Free H2 (n + 1 + 1) := by rw [hH2]; exact f1.new
  have o2 : ∀ j, j ≠ n + 1 → H2 j = H1 j := fun j hj => by rw [hH2, upd_ne _ _ hj]
  have r2 : H2 (n + 1) = some (Blk.row (Cont.l ty31.i.zero.cells) 31) := by rw [hH2, upd_same]
  show Ops env 77 none _ _ _ _ _ (upd H1 (n + 1) (some (Blk.row (Cont.l ty31.i.zero.cells) 31))) _
  rw [← hH2]
  clear hH2
  have r1 := r1.keep (o2 n (by omega))
  have old2 : Old h H2 n := fun j hj => by rw [o2 j (by omega), o1 j (by omega)]
  simp only [core1, tyr, fgr, execOp, opd, putT, put, nth, forgetL, und, sizeOf, getO, moved, fieldAddr, List.getElem?_cons_succ, List.getElem?_cons_zero, Nat.zero_add]
  rw [opv_rd (row_script r1 ov)]
  simp only [core1, hkr, execOp, opd, opds, putT, put, nth, doCall, callV_func, List.nil_append, List.append_nil]
  refine opv_callf f2 (f90 sv v.script H2 _ (hs.keep fun j hj => old2 j (hsn j hj)) hl f2) fun s' H3 n3 hn3 f3 ⟨b3, i3, o3⟩ => ?_
  simp only [core1, tyr, execOp, opd, putT, put, nth, und, sizeOf, getO, moved, fieldAddr, List.getElem?_cons_succ, List.getElem?_cons_zero, Nat.zero_add]
  obtain ⟨e1, he1⟩ := r1.keep (o3 n (by omega))
  rw [opv_wr (Row.write he1 ti29 (by rw [b3.kind.1]; rfl) (by show 35 + 1 ≤ (vcells v sv).length; rw [vcells_len ov.h ov.b]; decide) (by rw [b3.kind.1]; simp [b3.kind.2.1]))]
  rw [b3.kind.1, show splice (AVal.agg (vcells v sv)).cells 35 [s'] = vcells v s' from vsplice_s ov.h]
  simp only [core1, fgr, execOp, opd, putT, nth, forgetL]
  have f4 : Free (upd H3 n (some (Blk.row (Cont.l (vcells v s')) e1))) n3 := f3.upd (by omega)
  have r4 : Row (upd H3 n (some (Blk.row (Cont.l (vcells v s')) e1))) n (vcells v s') := Row.new _ _ _ _
  rw [opv_rd (row_all r4 ov)]
  simp only [core1, execOp, opd, putT, put, nth]
  have q4 : (upd H3 n (some (Blk.row (Cont.l (vcells v s')) e1))) (n + 1) = some (Blk.row (Cont.l ty31.i.zero.cells) 31) := by rw [upd_ne _ _ (by omega), o3 _ (by omega), r2]
  rw [opv_wr (Row.write q4 ti31 (v := .agg (vcells v s')) (vcells_len ov.h ov.b) (by decide) (vcells_cell b3.kind.2.1))]
  rw [splice_all (by show (vcells v s').length = _; rw [vcells_len ov.h ov.b]; rfl)]
  have hne : ∀ j, ownId s' = some j → j ≠ n ∧ j ≠ n + 1 := fun j hj => by have := i3 j hj; omega
  have r5 : Row (upd (upd H3 n (some (Blk.row (Cont.l (vcells v s')) e1))) (n + 1) (some (Blk.row (Cont.l (AVal.agg (vcells v s')).cells) 31))) (n + 1) (vcells v s') := Row.new _ _ _ _
  simp only [core1, fgr, putT, nth, forgetL, cel, true_and]
  refine wp_rdb (row_all r5 ov) ?_
  refine wp_pure.2 ⟨s', rfl, b3.keep fun j hj => ?_, fun j hj => by have := i3 j hj; omega, fun j hj => ?_⟩
  · rw [upd_ne _ _ (hne j hj).2, upd_ne _ _ (hne j hj).1]
  · rw [upd_ne _ _ (by omega), upd_ne _ _ (by omega), o3 j (by omega), old2 j hj]
/-- The index's parts; none. -/
theorem f73 (x : Nat) (cs : List AVal) (b : Bool) (h : Hp) (n : Nat) (hr : Row h x cs) (hc : cs[0]? = some (.bool b)) : Wp (callI env (evalW env) 73 [.ptr x 0]) h n fun v' h' n' => v' = .bool (!b) ∧ h' = h ∧ n' = n := by
  refine wp_callI ff73 fi73 ?_
  simp only [fu73, Try.f73, Option.getD_some, List.replicate, core1, tyr, fgr, execOp, opd, ofValue, putT, put, nth, forgetL, und, sizeOf, bor, binOther, strK, aggK, unOp, doPick, branch, nilCheck, getO, ended, resultOf, oneOrTup, moved, fieldAddr, equalTop, equal, nilFn, nilPtr, boolOf, List.getElem?_cons_succ, List.getElem?_cons_zero, List.cons_append, List.nil_append, List.length_cons, List.length_nil, Nat.reduceSub, Bool.and_true, Bool.or_true, and_self, Nat.zero_add, wp_pure, opv_rd (hr.one hc ti4 rfl)]
theorem f73n (h : Hp) (n : Nat) : Wp (callI env (evalW env) 73 [.nilp]) h n fun v' h' n' => v' = .bool true ∧ h' = h ∧ n' = n := by
  refine wp_callI ff73 fi73 ?_
  simp only [fu73, Try.f73, Option.getD_some, List.replicate, core1, tyr, fgr, execOp, opd, ofValue, putT, put, nth, forgetL, und, bor, binOther, strK, aggK, doPick, branch, ended, resultOf, oneOrTup, equalTop, equal, nilFn, nilPtr, boolOf, List.getElem?_cons_succ, List.getElem?_cons_zero, List.cons_append, List.nil_append, List.length_cons, List.length_nil, Nat.reduceSub, Bool.and_true, Bool.or_true, and_self, Nat.zero_add, wp_pure]
theorem f75 (h : Hp) (n : Nat) (v : AVal) : Wp (callI env (evalW env) 75 [v]) h n fun v' h' n' => v' = .bool true ∧ h' = h ∧ n' = n := by
  refine wp_callI ff75 fi75 ?_
  simp only [fu75, Try.f75, Option.getD_some, List.replicate, core1, fgr, execOp, opd, ofValue, putT, put, nth, forgetL, ended, resultOf, oneOrTup, List.cons_append, List.nil_append, List.length_cons, List.length_nil, Nat.reduceSub, and_self, Nat.zero_add, wp_pure]
/-- Addresses of versions. -/
structure Ps (h : Hp) (D : Nat → Prop) (xs : List AVal) (vs : List Ver) : Prop where
  len : xs.length = vs.length
  at_ : ∀ (j : Nat) x v, xs[j]? = some x → vs[j]? = some v → ∃ id sv, x = .ptr id 0 ∧ At h id sv v ∧ D id ∧ ∀ i, ownId sv = some i → D i
theorem Ps.mono {h h' : Hp} {D D' : Nat → Prop} {xs : List AVal} {vs : List Ver} (p : Ps h D xs vs) (hd : ∀ j, D j → D' j) (hk : ∀ j, D j → h' j = h j) : Ps h' D' xs vs :=
  ⟨p.len, fun j x v hx hv => by
    obtain ⟨id, sv, e, a, d1, d2⟩ := p.at_ j x v hx hv
    exact ⟨id, sv, e, a.keep (hk id d1) (fun i hi => hk i (d2 i hi)), hd id d1, fun i hi => hd i (d2 i hi)⟩⟩
theorem Ps.get {h : Hp} {D : Nat → Prop} {xs : List AVal} {vs : List Ver} (p : Ps h D xs vs) {j : Nat} (hj : j < vs.length) : ∃ id sv, xs[j]? = some (.ptr id 0) ∧ At h id sv vs[j] ∧ D id ∧ ∀ i, ownId sv = some i → D i := by
  have hx : j < xs.length := by rw [p.len]; exact hj
  obtain ⟨id, sv, e, a⟩ := p.at_ j _ _ (List.getElem?_eq_getElem hx) (List.getElem?_eq_getElem hj)
  exact ⟨id, sv, by rw [List.getElem?_eq_getElem hx, e], a⟩
theorem Ps.cells {h : Hp} {D : Nat → Prop} {xs : List AVal} {vs : List Ver} (p : Ps h D xs vs) : xs.all oneCell = true := by
  refine all_of fun j x hx => ?_
  have hj := (List.getElem?_eq_some_iff.1 hx).1
  obtain ⟨id, sv, rfl, _⟩ := p.at_ j x _ hx (List.getElem?_eq_getElem (by rw [← p.len]; exact hj))
  rfl
def cmpO : Bool → Ver → Ver → Int
  | false => cmpV
  | true => cmpS
def fid : Bool → Nat
  | false => 84
  | true => 85
def fo (o : Bool) : AVal := .fn (.func (fid o)) [] []
theorem hkO (o : Bool) (args : List AVal) : callF env (evalW env) (fid o) args = callI env (evalW env) (fid o) args := by cases o <;> rfl
theorem fO (o : Bool) (a b : Nat) (sa sb : AVal) (v w : Ver) (h : Hp) (n : Nat) (ha : AtN h n a sa v) (hb : AtN h n b sb w) (hf : Free h n) :
    Wp (callI env (evalW env) (fid o) [.ptr a 0, .ptr b 0]) h n fun v' h' n' => v' = .int .i64 (cmpO o v w) ∧ Old h h' n := by
  cases o
  · exact f84 a b sa sb v w h n ha hb hf
  · exact f85 a b sa sb v w h n ha hb hf
theorem u95 : und env 95 = M.pure (.slice 128) := rfl
theorem z128 : sizeOf env 128 = M.pure 1 := rfl
theorem mid (i j : Nat) (h : i + j ≤ 1000000000) : IntKind.i64.wrap (Int.fdiv (IntKind.u64.wrap (IntKind.i64.wrap ((i : Int) + (j : Int)))) (2 ^ min (Int.toNat 1) IntKind.u64.bits)) = (((i + j) / 2 : Nat) : Int) := by
  have e1 : IntKind.i64.wrap ((i : Int) + (j : Int)) = (i : Int) + (j : Int) := w64 (by omega) (by omega)
  have e2 : IntKind.u64.wrap ((i : Int) + (j : Int)) = (i : Int) + (j : Int) := wu64 (by omega) (by omega)
  have e3 : ((2 : Int) ^ min (Int.toNat 1) IntKind.u64.bits) = 2 := by decide
  have e4 : ((i : Int) + (j : Int)).fdiv 2 = (((i + j) / 2 : Nat) : Int) := by rw [Int.fdiv_eq_ediv_of_nonneg _ (by decide)]; omega
  rw [e1, e2, e3, e4]
  exact w64 (by omega) (by omega)
theorem loop114 (Q : Post0) (ks : List Kf) (o : Bool) (v : AVal) (t : Nat) (st : AVal) (tv : Ver) (cnt : Nat) (xs : List AVal) (vs : List Ver) (D : Nat → Prop) (h0 : Hp) (n0 : Nat) (hc : cnt ≤ 100000000) (hv : Rds h0 1 v cnt xs) (hvn : ∀ j, ownId v = some j → j < n0) (hp : Ps h0 D xs vs) (hD : ∀ j, D j → j < n0) (ht : AtN h0 n0 t st tv)
    (hmono : ∀ (a b : Nat) (ha : a < vs.length) (hb : b < vs.length), a < b → cmpO o vs[b] tv < 0 → cmpO o vs[a] tv < 0)
    (hT : ∀ (p : Nat) (h : Hp) (n : Nat) (x6 x7 x11 x17 x31 : AVal), p ≤ cnt → (∀ k (hk : k < vs.length), k < p → cmpO o vs[k] tv < 0) → (∀ k (hk : k < vs.length), p ≤ k → ¬ cmpO o vs[k] tv < 0) → n0 ≤ n → Free h n → Old h0 h n0 →
      Kont env 114 none Q ks (.exit 0) (v :: .ptr t 0 :: fo o :: AVal.junk :: AVal.junk :: AVal.junk :: x6 :: x7 :: .int .i64 (cnt : Nat) :: .int .i64 (p : Nat) :: .int .i64 (p : Nat) :: x11 :: AVal.junk :: AVal.junk :: AVal.junk :: AVal.junk :: AVal.junk :: x17 :: AVal.junk :: AVal.junk :: AVal.junk :: AVal.junk :: AVal.junk :: AVal.junk :: AVal.junk :: AVal.junk :: AVal.junk :: AVal.junk :: AVal.junk :: AVal.junk :: AVal.junk :: x31 :: AVal.junk :: AVal.junk :: AVal.junk :: AVal.junk :: AVal.junk :: AVal.junk :: AVal.junk :: AVal.junk :: AVal.junk :: AVal.junk :: AVal.junk :: AVal.junk :: AVal.junk :: AVal.junk :: AVal.junk :: AVal.junk :: AVal.junk :: []) h n) :
    ∀ (m i j : Nat) (h : Hp) (n : Nat) (x6 x7 x11 x17 x31 : AVal), j - i ≤ m → i ≤ j → j ≤ cnt → (∀ k (hk : k < vs.length), k < i → cmpO o vs[k] tv < 0) → (∀ k (hk : k < vs.length), j ≤ k → ¬ cmpO o vs[k] tv < 0) → n0 ≤ n → Free h n → Old h0 h n0 →
      Run env 114 none Q (.loop lp114_0) ks (v :: .ptr t 0 :: fo o :: AVal.junk :: AVal.junk :: AVal.junk :: x6 :: x7 :: .int .i64 (cnt : Nat) :: .int .i64 (i : Nat) :: .int .i64 (j : Nat) :: x11 :: AVal.junk :: AVal.junk :: AVal.junk :: AVal.junk :: AVal.junk :: x17 :: AVal.junk :: AVal.junk :: AVal.junk :: AVal.junk :: AVal.junk :: AVal.junk :: AVal.junk :: AVal.junk :: AVal.junk :: AVal.junk :: AVal.junk :: AVal.junk :: AVal.junk :: x31 :: AVal.junk :: AVal.junk :: AVal.junk :: AVal.junk :: AVal.junk :: AVal.junk :: AVal.junk :: AVal.junk :: AVal.junk :: AVal.junk :: AVal.junk :: AVal.junk :: AVal.junk :: AVal.junk :: AVal.junk :: AVal.junk :: AVal.junk :: []) h n := by
  intro m
  have hcl : cnt = vs.length := by have := hv.length; have := hp.len; omega
  induction m with
  | zero =>
    intro i j h n x6 x7 x11 x17 x31 hm hij hjc h1 h2 hn hf ho
    have : i = j := by omega
    subst this
    rw [run_loop]
    have hcc : ¬ ((i : Int) < (i : Int)) := by omega
    simp only [lp114_0, loopsOf, Try.f114, Option.getD_some, core1, fgr, execOp, opd, putT, put, nth, forgetL, bor, binInt, shiftB, intOp, List.nil_append, List.append_nil, decide_true, decide_false, List.getD_cons_zero, hcc]
    exact hT i h n _ _ _ _ _ hjc h1 h2 hn hf ho
  | succ m ih =>
    intro i j h n x6 x7 x11 x17 x31 hm hij hjc h1 h2 hn hf ho
    rw [run_loop]
    by_cases hlt : i < j
    · have hcc : ((i : Int) < (j : Int)) := by omega
      have hk : (i + j) / 2 < cnt := by omega
      have hv' := hv.keep (h' := h) (fun j hj => ho j (hvn j hj))
      have hp' := hp.mono (D' := D) (fun _ q => q) (fun j hj => ho j (hD j hj))
      obtain ⟨id, sv, hx, a, d1, d2⟩ := hp'.get (j := (i + j) / 2) (by omega)
      have hidx := hv'.idx (E := env) u95 z128 (kk := .i64) (z := (((i + j) / 2 : Nat) : Int)) (j := (i + j) / 2) rfl hk (h' := h) (n' := n)
      have hld := hv'.load (E := env) ti128 rfl (k := (i + j) / 2 * 1) (n := n) (by rw [Nat.mul_one]; exact hx)
      simp only [lp114_0, loopsOf, Try.f114, Option.getD_some, core1, tyr, fgr, execOp, opd, ofValue, putT, put, nth, forgetL, und, lenOf, bor, binInt, shiftB, shiftOp, intOp, wrapI, strK, intK, List.nil_append, List.append_nil, Int.reduceLE, decide_true, true_and, convert, convStr, isU8, List.getD_cons_zero, hcc, mid i j (by omega)]
      rw [opv_rd hidx]
      simp only [core1, execOp, opd, putT, put, nth]
      rw [opv_rd hld]
      simp only [core1, execOp, opd, opds, putT, put, nth, doCall, callV_func, List.nil_append, List.append_nil, fo, hkO]
      have atn : AtN h n id sv (vs[(i + j) / 2]'(by omega)) := ⟨a, by have := hD _ d1; omega, fun q hq => by have := hD _ (d2 q hq); omega⟩
      refine opv_callf hf (fO o id t sv st _ tv h n atn (ht.old hn ho) hf) fun v' h' n' hn' hf' ⟨e', o'⟩ => ?_
      subst e'
      have ho' : Old h0 h' n0 := fun q hq => (o' q (by omega)).trans (ho q hq)
      by_cases hneg : cmpO o (vs[(i + j) / 2]'(by omega)) tv < 0
      · have w1 : IntKind.i64.wrap ((((i + j) / 2 : Nat) : Int) + 1) = (((i + j) / 2 + 1 : Nat) : Int) := by rw [w64 (by omega) (by omega)]; omega
        simp only [core1, fgr, execOp, opd, ofValue, putT, put, nth, forgetL, bor, binInt, shiftB, intOp, wrapI, decide_true, hneg, w1]
        exact ih ((i + j) / 2 + 1) j h' n' _ _ _ _ _ (by omega) (by omega) hjc (fun k hk hlt => by
          by_cases q : k = (i + j) / 2
          · subst q; exact hneg
          · exact hmono k ((i + j) / 2) hk (by omega) (by omega) hneg) h2 (by omega) hf' ho'
      · simp only [core1, fgr, execOp, opd, ofValue, putT, put, nth, forgetL, bor, binInt, shiftB, intOp, decide_true, decide_false, hneg]
        exact ih i ((i + j) / 2) h' n' _ _ _ _ _ (by omega) (by omega) (by omega) h1 (fun k hk hle hlt => by
          by_cases q : k = (i + j) / 2
          · subst q; exact hneg hlt
          · exact hneg (hmono ((i + j) / 2) k (by omega) hk (by omega) hlt)) (by omega) hf' ho'
    · have : i = j := by omega
      subst this
      have hcc : ¬ ((i : Int) < (i : Int)) := by omega
      simp only [lp114_0, loopsOf, Try.f114, Option.getD_some, core1, fgr, execOp, opd, putT, put, nth, forgetL, bor, binInt, shiftB, intOp, List.nil_append, List.append_nil, decide_true, decide_false, List.getD_cons_zero, hcc]
      exact hT i h n _ _ _ _ _ hjc h1 h2 hn hf ho
/-- The place of a version in a list. -/
structure Pos (o : Bool) (vs : List Ver) (t : Ver) (p : Nat) : Prop where
  le : p ≤ vs.length
  lo : ∀ k (hk : k < vs.length), k < p → cmpO o vs[k] t < 0
  hi : ∀ k (hk : k < vs.length), p ≤ k → ¬ cmpO o vs[k] t < 0
def isAt (o : Bool) (vs : List Ver) (t : Ver) (p : Nat) : Bool := match vs[p]? with
  | some w => decide (cmpO o w t = 0)
  | none => false
def Mono (o : Bool) (vs : List Ver) (t : Ver) : Prop := ∀ (a b : Nat) (ha : a < vs.length) (hb : b < vs.length), a < b → cmpO o vs[b] t < 0 → cmpO o vs[a] t < 0
theorem f114 (o : Bool) (v : AVal) (t : Nat) (st : AVal) (tv : Ver) (cnt : Nat) (xs : List AVal) (vs : List Ver) (D : Nat → Prop) (h : Hp) (n : Nat) (hc : cnt ≤ 100000000) (hv : Rds h 1 v cnt xs) (hvn : ∀ j, ownId v = some j → j < n) (hp : Ps h D xs vs) (hD : ∀ j, D j → j < n) (ht : AtN h n t st tv)
    (hmono : Mono o vs tv) (hf : Free h n) :
    Wp (callI env (evalW env) 114 [v, .ptr t 0, fo o]) h n fun v' h' n' => ∃ p, Pos o vs tv p ∧ v' = .tup [.int .i64 (p : Nat), .bool (isAt o vs tv p)] ∧ Old h h' n := by
  have hcl : cnt = vs.length := by have := hv.length; have := hp.len; omega
  refine wp_callI ff114 fi114 ?_
  simp only [fu114, Try.f114, Option.getD_some, List.replicate, core1, fgr, execOp, opd, opds, ofValue, putT, put, nth, forgetL, doCall, builtin, one1, ended, resultOf, oneOrTup, List.cons_append, List.nil_append, List.length_cons, List.length_nil, Nat.reduceAdd, Nat.reduceSub, Nat.zero_add, wp_pure, hv.bLen u95]
  refine loop114 _ _ o v t st tv cnt xs vs D h n hc hv hvn hp hD ht hmono ?_ cnt 0 cnt h n _ _ _ _ _ (by omega) (by omega) (Nat.le_refl _) (fun k _ hk => by omega) (fun k hk hle => by omega) (Nat.le_refl _) hf (Old.refl _ _)
  intro p h1 n1 x6 x7 x11 x17 x31 hpc hlo hhi hn1 hf1 ho1
  have hP : Pos o vs tv p := ⟨by omega, hlo, hhi⟩
  by_cases hlt : p < cnt
  · have hcc : ((p : Int) < ((cnt : Nat) : Int)) := by omega
    have hv' := hv.keep (h' := h1) (fun j hj => ho1 j (hvn j hj))
    have hp' := hp.mono (D' := D) (fun _ q => q) (fun j hj => ho1 j (hD j hj))
    obtain ⟨id, sv, hx, a, d1, d2⟩ := hp'.get (j := p) (by omega)
    have hidx := hv'.idx (E := env) u95 z128 (kk := .i64) (z := ((p : Nat) : Int)) (j := p) rfl hlt (h' := h1) (n' := n1)
    have hld := hv'.load (E := env) ti128 rfl (k := p * 1) (n := n1) (by rw [Nat.mul_one]; exact hx)
    simp only [core1, execOp, opd, putT, put, nth, bor, binInt, shiftB, intOp, List.getElem?_cons_succ, List.getElem?_cons_zero, decide_true, hcc]
    rw [opv_rd hidx]
    simp only [core1, execOp, opd, putT, put, nth, List.getElem?_cons_succ, List.getElem?_cons_zero]
    rw [opv_rd hld]
    simp only [core1, execOp, opd, opds, putT, put, nth, doCall, callV_func, List.getElem?_cons_succ, List.getElem?_cons_zero, List.nil_append, List.append_nil, fo, hkO]
    have atn : AtN h1 n1 id sv (vs[p]'(by omega)) := ⟨a, by have := hD _ d1; omega, fun q hq => by have := hD _ (d2 q hq); omega⟩
    refine opv_callf hf1 (fO o id t sv st _ tv h1 n1 atn (ht.old hn1 ho1) hf1) fun v' h' n' hn' hf' ⟨e', o'⟩ => ?_
    subst e'
    have hia : isAt o vs tv p = decide (cmpO o (vs[p]'(by omega)) tv = 0) := by
      unfold isAt
      rw [List.getElem?_eq_getElem (by omega)]
    simp only [core1, fgr, execOp, opd, ofValue, putT, put, nth, forgetL, bor, binInt, shiftB, intOp, doPick, branch, List.getElem?_cons_succ, List.getElem?_cons_zero, int_beq, decide_true, true_and]
    exact ⟨p, hP, by rw [hia], fun q hq => (o' q (by omega)).trans (ho1 q hq)⟩
  · have hcc : ¬ ((p : Int) < ((cnt : Nat) : Int)) := by omega
    have hia : isAt o vs tv p = false := by
      unfold isAt
      rw [List.getElem?_eq_none (by omega)]
    simp only [core1, fgr, execOp, opd, ofValue, putT, put, nth, forgetL, bor, binInt, shiftB, intOp, doPick, branch, List.getElem?_cons_succ, List.getElem?_cons_zero, decide_true, decide_false, true_and, hcc]
    exact ⟨p, hP, by rw [hia], ho1⟩
theorem f103 (o : Bool) (x off : Nat) (cs : List AVal) (v : AVal) (t : Nat) (st : AVal) (tv : Ver) (cnt : Nat) (xs : List AVal) (vs : List Ver) (D : Nat → Prop) (h : Hp) (n : Nat) (hr : Row h x cs) (hc0 : cs[off]? = some v) (hc1 : cs[off + 1]? = some (fo o)) (hc : cnt ≤ 100000000) (hv : Rds h 1 v cnt xs) (hvn : ∀ j, ownId v = some j → j < n) (hp : Ps h D xs vs) (hD : ∀ j, D j → j < n) (ht : AtN h n t st tv)
    (hmono : Mono o vs tv) (hf : Free h n) :
    Wp (callI env (evalW env) 103 [.ptr x off, .ptr t 0]) h n fun v' h' n' => ∃ p, Pos o vs tv p ∧ v' = .tup [.int .i64 (p : Nat), .bool (isAt o vs tv p)] ∧ Old h h' n := by
  refine wp_callI ff103 fi103 ?_
  simp only [fu103, Try.f103, Option.getD_some, List.replicate, core1, fgr, execOp, opd, ofValue, putT, put, forgetL, ended, resultOf, oneOrTup, List.cons_append, List.nil_append, List.length_cons, List.length_nil, Nat.reduceAdd, Nat.reduceSub, Nat.zero_add, wp_pure]
  refine run_draw.2 ⟨rfl, ?_⟩
  simp only [fe_cons, fev_pure, core1, tyr, execOp, opd, putT, put, nth, und, sizeOf, nilCheck, getO, moved, fieldAddr, List.getElem?_cons_zero, Nat.reduceAdd, Nat.zero_add, Nat.add_zero]
  rw [fev_rd (hr.one hc0 ti95 rfl)]
  simp only [fe_cons, fev_pure, core1, tyr, execOp, opd, putT, put, nth, und, sizeOf, nilCheck, getO, moved, fieldAddr, List.getElem?_cons_succ, List.getElem?_cons_zero, Nat.reduceAdd]
  rw [fev_rd (hr.one hc1 ti96 rfl)]
  simp only [fe_cons, hkr, execOp, opd, opds, putT, put, nth, doCall, callV_func, List.nil_append, List.append_nil, Nat.reduceAdd]
  refine fev_any hf (f114 o v t st tv cnt xs vs D h n hc hv hvn hp hD ht hmono hf) fun v5 h5 n5 r5 w5 hn5 f5 ⟨p, hP, e1, o1⟩ => ?_
  subst e1
  simp only [fe_nil, fe_cons, fev_pure, core1, fgr, execOp, opd, putT, put, nth, forgetL, extract, getO, List.getElem?_cons_succ, List.getElem?_cons_zero, Nat.reduceAdd, true_and]
  refine ⟨(by (try simp (disch := first | assumption | omega) only [fine, List.all_cons, List.all_nil, clash_pl, clash_pr, clash_rr, Bool.not_false, Bool.true_or, Bool.and_true, Bool.true_and]); repeat' (first | rfl | exact (Bool.or_eq_true _ _).mpr (.inr rfl) | refine (Bool.and_eq_true _ _).mpr ⟨?_, ?_⟩)), ?_⟩
  exact ⟨p, hP, rfl, o1⟩
/-- A list of an index. -/
inductive Lp (h : Hp) : AVal → Nat → List AVal → Prop
  | nil : Lp h .nils 0 []
  | zero (id off : Nat) (c : Cont) (hh : h id = some (.row c 128)) (hs : off ≤ c.size) : Lp h (.sl id off 0 (some 0) 1) 0 []
  | sl (id cnt : Nat) (cells xs : List AVal) (hh : h id = some (.row (.l cells) 128)) (h0 : 0 < cells.length) (hl : cnt ≤ cells.length) (hx : cells.take cnt = xs) : Lp h (.sl id 0 cnt none 1) cnt xs
theorem Lp.rds {h : Hp} {s : AVal} {cnt : Nat} {xs : List AVal} (l : Lp h s cnt xs) : Rds h 1 s cnt xs := by
  cases l with
  | nil => exact .nils
  | zero id off c hh hs => exact .sl id off 0 (some 0) c 128 _ hh rfl (by simpa using hs) (fun j hj => by simp at hj)
  | sl id cnt cells xs hh h0 hl hx =>
    subst hx
    exact .sl id 0 cnt none (.l cells) 128 _ hh (by rw [List.length_take]; omega) (by rw [List.length_take]; show 0 + _ ≤ cells.length; omega) (fun j hj => by
      rw [List.length_take] at hj
      rw [Nat.zero_add, Cont.at_l (by omega), List.getElem_take])
theorem Lp.keep {h h' : Hp} {s : AVal} {cnt : Nat} {xs : List AVal} (l : Lp h s cnt xs) (hk : ∀ j, ownId s = some j → h' j = h j) : Lp h' s cnt xs := by
  cases l with
  | nil => exact .nil
  | zero id off c hh hs => exact .zero id off c ((hk id rfl).trans hh) hs
  | sl id cnt cells xs hh h0 hl hx => exact .sl id cnt cells xs ((hk id rfl).trans hh) h0 hl hx
theorem Lp.live {h : Hp} {n : Nat} {s : AVal} {cnt : Nat} {xs : List AVal} (l : Lp h s cnt xs) (hf : Free h n) {j : Nat} (hj : ownId s = some j) : j < n := by
  by_cases q : j < n
  · exact q
  · cases l with
    | nil => cases hj
    | zero id off c hh hs => injection hj with hj; subst hj; rw [hf id (by omega)] at hh; cases hh
    | sl id cnt cells xs hh h0 hl hx => injection hj with hj; subst hj; rw [hf id (by omega)] at hh; cases hh
theorem wp_ins {h : Hp} {n xid k cnt : Nat} {s x : AVal} {xs : List AVal} (l : Lp h s cnt xs) (hx : h xid = some (.row (.l [x]) 128)) (h1 : oneCell x = true) (hk : k ≤ cnt) (hc : cnt ≤ 100000000) (hxs : xs.all oneCell = true) (hne : ownId s ≠ some xid) (hf : Free h n) :
    Wp (insAct 128 ty128.i [s, .int .i64 (k : Nat), .sl xid 0 1 (some 1) 1]) h n fun v' h' n' => v' = .sl n 0 (cnt + 1) none 1 ∧ n' = n + 1 ∧ h' n = some (.row (.l (insL xs k x)) 128) ∧ ∀ j, j < n → ownId s ≠ some j → h' j = h j := by
  have hxn : xid < n := by
    by_cases q : xid < n
    · exact q
    · rw [hf xid (by omega)] at hx; cases hx
  have b1 : Nat.blt xid n = true := Nat.ble_eq_true_of_le hxn
  have b2 : Nat.blt 0 1 = true := rfl
  have r0 : ((2 * 1 * 8).ble room && (1).ble room) = true := rfl
  simp only [insAct, wp_next, wp_get, hx, Option.some.injEq, exists_eq_left', rowK, wp_ob, b1, Cont.size, Cont.at, nth, List.length_singleton, b2, Nat.beq_refl, h1, Bool.and_self, true_and]
  cases l with
  | nil =>
    have : k = 0 := by omega
    subst this
    simp only [insGrow, grown, wp_ob, wp_new, wp_pure, decide_true, Int.cast_ofNat_Int, ty128, r0, true_and]
    exact ⟨upd_same _ _ _, fun j hj _ => upd_ne _ _ (by omega)⟩
  | zero id off c hh hs =>
    have : k = 0 := by omega
    subst this
    have hid : id < n := by
      by_cases q : id < n
      · exact q
      · rw [hf id (by omega)] at hh; cases hh
    have b3 : Nat.blt id n = true := Nat.ble_eq_true_of_le hid
    have b4 : off.ble c.size = true := Nat.ble_eq_true_of_le hs
    unfold Cont.size at b4
    simp only [sameSz, wp_get, hh, Option.some.injEq, exists_eq_left', rowK, wp_ob, b3, b4, Nat.beq_refl, Bool.and_self, true_and, insGrow, grown, wp_new, wp_pure, decide_true, Int.cast_ofNat_Int, ty128, r0]
    exact ⟨upd_same _ _ _, fun j hj _ => upd_ne _ _ (by omega)⟩
  | sl id cnt cells xs hh h0 hl hxx =>
    subst hxx
    have hid : id < n := by
      by_cases q : id < n
      · exact q
      · rw [hf id (by omega)] at hh; cases hh
    have b3 : Nat.blt id n = true := Nat.ble_eq_true_of_le hid
    have b4 : Nat.blt 0 cells.length = true := Nat.ble_eq_true_of_le h0
    have b5 : cnt.ble cells.length = true := Nat.ble_eq_true_of_le hl
    have b6 : (id.beq xid) = false := beq_of (fun e => hne (by rw [e]; rfl))
    have b7 : one8 ((k : Nat) : Int) cnt = true := decide_eq_true ⟨by omega, by omega⟩
    have b8 : (Cont.l cells).sub 0 cnt = cells.take cnt := rfl
    have r1 : ((2 * (cnt + 1) * 8).ble room && (cnt + 1).ble room) = true := by
      unfold room
      rw [ble_of (by omega), ble_of (by omega)]; rfl
    simp only [sameSz, wp_get, hh, Option.some.injEq, exists_eq_left', rowK, wp_ob, b3, b4, b5, b6, b7, b8, hxs, Nat.beq_refl, Bool.not_false, Bool.and_self, true_and, wp_kill, grown, wp_new, wp_pure, ty128, r1, Int.toNat_natCast]
    refine ⟨by simp, upd_same _ _ _, fun j hj hn => ?_⟩
    rw [upd_ne _ _ (by omega), upd_ne _ _ (fun e => hn (by rw [e]; rfl))]
theorem bs95 (x : AVal) (hx : x.cells = [x] ∧ oneCell x = true ∧ isJunk x = false) : buildSlice env 95 1 [(0, x)] = (newRow env 128 [x]).bind fun id => M.pure (.sl id 0 1 (some 1) 1) := by
  cases x with
  | agg l => cases hx.2.1
  | tup l => cases hx.2.1
  | junk => cases hx.2.1
  | _ => rfl
theorem f78 (o : Bool) (x off : Nat) (cs : List AVal) (v : AVal) (t : Nat) (st : AVal) (tv : Ver) (cnt : Nat) (xs : List AVal) (vs : List Ver) (D : Nat → Prop) (h : Hp) (n : Nat) (hr : Row h x cs) (hc0 : cs[off]? = some v) (hc1 : cs[off + 1]? = some (fo o)) (hc : cnt ≤ 10000000) (hv : Lp h v cnt xs) (hp : Ps h D xs vs) (hD : ∀ j, D j → j < n ∧ ownId v ≠ some j) (ht : AtN h n t st tv)
    (hmono : Mono o vs tv) (hx : x < n) (hxv : ownId v ≠ some x) (hf : Free h n) :
    Wp (callI env (evalW env) 78 [.ptr x off, .ptr t 0]) h n fun v' h' n' => v' = .tup [] ∧ ∃ p m, Pos o vs tv p ∧ n ≤ m ∧ m < n' ∧ Lp h' (.sl m 0 (cnt + 1) none 1) (cnt + 1) (insL xs p (.ptr t 0)) ∧ Row h' x (splice cs off [.sl m 0 (cnt + 1) none 1]) ∧ ∀ j, j < n → j ≠ x → ownId v ≠ some j → h' j = h j := by
  have hcl : cnt = vs.length := by have := hv.rds.length; have := hp.len; omega
  have ho : off < cs.length := (List.getElem?_eq_some_iff.1 hc0).1
  refine wp_callI ff78 fi78 ?_
  simp only [fu78, Try.f78, Option.getD_some, List.replicate, core1, hkr, execOp, opd, opds, putT, put, nth, doCall, callV_func, ended, resultOf, oneOrTup, List.cons_append, List.nil_append, List.append_nil, List.length_cons, List.length_nil, Nat.reduceAdd, Nat.reduceSub, true_and, Nat.zero_add, wp_pure]
  refine opv_callf hf (f103 o x off cs v t st tv cnt xs vs D h n hr hc0 hc1 (by omega) hv.rds (fun j hj => hv.live hf hj) hp (fun j hj => (hD j hj).1) ht hmono hf) fun v1 h1 n1 hn1 f1 ⟨p, hP, e1, o1⟩ => ?_
  subst e1
  have hr1 := hr.keep (o1 x hx)
  have hv1 := hv.keep (h' := h1) (fun j hj => o1 j (hv.live hf hj))
  simp only [core1, tyr, fgr, execOp, opd, putT, put, nth, forgetL, und, sizeOf, nilCheck, extract, getO, moved, fieldAddr, List.getElem?_cons_succ, List.getElem?_cons_zero, Nat.add_zero]
  rw [opv_rd (hr1.one hc0 ti95 rfl)]
  simp only [core1, tyr, hkr, execOp, opd, opds, ops2, putT, put, nth, doCall, callV_func, newRow, List.nil_append, List.append_nil, bs95 (.ptr t 0) ⟨rfl, rfl, rfl⟩]
  obtain ⟨H2, hH2⟩ : ∃ H2, H2 = upd h1 n1 (some (Blk.row (Cont.l [AVal.ptr t 0]) 128)) := ⟨_, rfl⟩
  have f2 : Free H2 (n1 + 1) := by rw [hH2]; exact f1.new
  have o2 : ∀ j, j ≠ n1 → H2 j = h1 j := fun j hj => by rw [hH2, upd_ne _ _ hj]
  have r2 : H2 n1 = some (Blk.row (Cont.l [AVal.ptr t 0]) 128) := by rw [hH2, upd_same]
  rw [← hH2]
  clear hH2
  have hv2 := hv1.keep (h' := H2) (fun j hj => o2 j (by have := hv.live hf hj; omega))
  have hvn : ∀ j, ownId v = some j → j < n := fun j hj => hv.live hf hj
  refine opv_callf f2 (wp_ins hv2 r2 rfl (by have := hP.le; omega) (by omega) hp.cells (fun e => by have := hvn _ e; omega) f2) fun v3 h3 n3 hn3 f3 ⟨e3, e3n, r3, o3⟩ => ?_
  subst e3; subst e3n
  obtain ⟨ex, hx3⟩ := hr1.keep (h' := h3) ((o3 x (by omega) hxv).trans (o2 x (by omega)))
  have hil : (insL xs p (AVal.ptr t 0)).length = cnt + 1 := by rw [insL_length, hp.len, hcl]
  simp only [core1, tyr, execOp, opd, putT, put, nth, und, sizeOf, nilCheck, getO, moved, fieldAddr, List.getElem?_cons_zero, Nat.add_zero]
  rw [opv_wr (Row.write (v := .sl (n1 + 1) 0 (cnt + 1) none 1) hx3 ti95 rfl (by show off + 1 ≤ _; omega) rfl)]
  simp only [core1, fgr, putT, forgetL, cel, true_and]
  refine ⟨p, n1 + 1, hP, by omega, by omega, .sl _ _ _ _ ((upd_ne _ _ (by omega)).trans r3) (by omega) (by omega) (by rw [← hil, List.take_length]), Row.new _ _ _ _, fun j hj hjx hjv => ?_⟩
  rw [upd_ne _ _ hjx, o3 j (by omega) hjv, o2 j (by omega), o1 j hj]
/-- What stands when the one at a place is gone. -/
def delL {α : Type} (l : List α) (k : Nat) : List α := l.take k ++ l.drop (k + 1)
theorem delL_length {α : Type} {l : List α} {k : Nat} (h : k < l.length) : (delL l k).length = l.length - 1 := by
  unfold delL
  rw [List.length_append, List.length_take, List.length_drop]; omega
theorem sl3 {id len i j : Nat} {z1 z2 z3 : Int} (e1 : z1 = (i : Nat)) (e2 : z2 = (j : Nat)) (e3 : z3 = (len : Nat)) (h1 : i ≤ j) (h2 : j ≤ len) {h' : Hp} {n' : Nat} :
    Rd (slice env 95 (.sl id 0 len none 1) (some (.int .i64 z1)) (some (.int .i64 z2)) (some (.int .i64 z3))) h' n' [] (.sl id i (j - i) (some (len - i)) 1) := by
  subst e1; subst e2; subst e3
  simp only [slice, u95, z128, bind_pure, bound, intK, bind_assoc, sameSz, Option.getD_none, Int.toNat_natCast, Nat.zero_add, Nat.mul_one]
  exact Rd.bind (i2 := []) (Rd.ob (decide_eq_true ⟨by omega, by omega⟩)) (Rd.bind (i2 := []) (Rd.ob (decide_eq_true ⟨by omega, by omega⟩)) (Rd.bind (i2 := []) (Rd.ob (decide_eq_true ⟨by omega, by omega⟩)) (Rd.pure _)))
theorem slh {id len k : Nat} {z : Int} (hz : z = (k : Nat)) (hk : k ≤ len) {h' : Hp} {n' : Nat} : Rd (slice env 95 (.sl id 0 len none 1) none (some (.int .i64 z)) none) h' n' [] (.sl id 0 k none 1) := by
  subst hz
  have hle : (decide (((k : Nat) : Int) ≤ ((len : Nat) : Int))) = true := decide_eq_true (by omega)
  simp only [slice, roomOf, hle, u95, z128, bind_pure, bound, intK, bind_assoc, sameSz, Nat.zero_mul, Nat.add_zero, Nat.sub_zero, Int.toNat_natCast]
  exact Rd.bind (i2 := []) (Rd.ob (decide_eq_true ⟨by omega, by omega⟩)) (Rd.pure _)
theorem sll {id len k : Nat} {z : Int} (hz : z = (k : Nat)) (hk : k ≤ len) {h' : Hp} {n' : Nat} : Rd (slice env 95 (.sl id 0 len none 1) (some (.int .i64 z)) none none) h' n' [] (.sl id k (len - k) none 1) := by
  subst hz
  simp only [slice, roomOf, u95, z128, bind_pure, bound, intK, bind_assoc, sameSz, Nat.zero_add, Nat.mul_one, Int.toNat_natCast]
  exact Rd.bind (i2 := []) (Rd.ob (decide_eq_true ⟨by omega, by omega⟩)) (Rd.pure _)
/-- .. beyond its length, as far as its block goes. -/
theorem slb {id len hi : Nat} {z1 z2 : Int} {cells : List AVal} {e : TypeId} (e1 : z1 = (len : Nat)) (e2 : z2 = (hi : Nat)) (h1 : len < hi) (h2 : hi ≤ cells.length) {h' : Hp} {n' : Nat} (hh : h' id = some (.row (.l cells) e)) :
    Rd (slice env 95 (.sl id 0 len none 1) (some (.int .i64 z1)) (some (.int .i64 z2)) none) h' n' [id] (.sl id len (hi - len) none 1) := by
  subst e1; subst e2
  have hle : (decide (((hi : Nat) : Int) ≤ ((len : Nat) : Int))) = false := decide_eq_false (by omega)
  simp only [slice, roomOf, hle, u95, z128, bind_pure, bound, intK, bind_assoc, sameSz, Nat.zero_add, Nat.mul_one, Int.toNat_natCast]
  refine Rd.bind (i1 := [id]) (i2 := []) (Rd.get hh) ?_
  simp only [rowK, bind_pure, Cont.size, Nat.sub_zero, Nat.div_one]
  exact Rd.bind (i2 := []) (Rd.ob (decide_eq_true ⟨by omega, by omega⟩)) (Rd.bind (i2 := []) (Rd.ob (decide_eq_true ⟨by omega, by omega⟩)) (Rd.pure _))
theorem clr {id off : Nat} {cells : List AVal} {e : TypeId} {h : Hp} {n : Nat} (hh : h id = some (.row (.l cells) e)) (ho : off + 1 ≤ cells.length) :
    Wp (bClear env [95] (.sl id off 1 none 1)) h n fun v' h' n' => h' = upd h id (some (.row (.l (splice cells off [.nilp])) e)) ∧ n' = n := by
  have hb : (off + 1).ble cells.length = true := ble_of ho
  simp only [bClear, u95, bind_pure, wp_ask, show (Nat.beq 1 0) = false from rfl, ti128, sameSz, reps, List.append_nil, AVal.cells, writeCells, bind_assoc, wp_get, hh, Option.some.injEq, exists_eq_left', rowK, wp_ob, Cont.size, List.length_singleton, hb, List.all_cons, List.all_nil, oneCell, Bool.and_true, true_and, wp_set, wp_pure]
  rw [setAll_l _ _ _ (by simpa using ho)]
  exact ⟨by simp, rfl, trivial⟩
theorem f105 (id cnt i : Nat) (cells xs : List AVal) (h : Hp) (n : Nat) (hh : h id = some (.row (.l cells) 128)) (hl : cnt ≤ cells.length) (hx : cells.take cnt = xs) (hi : i < cnt) (hc : cnt ≤ 10000000) (h1 : xs.all oneCell = true) (hf : Free h n) :
    Wp (callI env (evalW env) 105 [.sl id 0 cnt none 1, .int .i64 (i : Nat), .int .i64 (i + 1 : Nat)]) h n fun v' h' n' => v' = .sl id 0 (cnt - 1) none 1 ∧ n' = n ∧ ∃ cells', cells'.length = cells.length ∧ cells'.take (cnt - 1) = delL xs i ∧ h' id = some (.row (.l cells') 128) ∧ ∀ j, j ≠ id → h' j = h j := by
  have hxl : xs.length = cnt := by rw [← hx, List.length_take]; omega
  have hin : id < n := by
    by_cases q : id < n
    · exact q
    · rw [hf id (by omega)] at hh; cases hh
  refine wp_callI ff105 fi105 ?_
  simp only [fu105, Try.f105, Option.getD_some, List.replicate, core1, fgr, execOp, opd, opds, opt, ofValue, putT, put, nth, forgetL, doCall, builtin, one1, blr, ended, resultOf, oneOrTup, List.cons_append, List.nil_append, List.length_cons, List.length_nil, Nat.reduceAdd, Nat.reduceSub, Nat.zero_add, wp_pure]
  rw [opv_rd (sl3 rfl rfl rfl (by omega) (by omega))]
  have ei : (((i : Nat) : Int) = ((i + 1 : Nat) : Int)) = False := by simp; omega
  simp only [core1, fgr, execOp, opd, opds, putT, put, nth, forgetL, doCall, builtin, one1, blr, bor, binInt, shiftB, intOp, int_beq, decide_true, decide_false, ei]
  refine run_draw.2 ⟨rfl, ?_⟩
  simp only [fe_cons, fev_pure, execOp, opd, opt, putT, put, nth, Nat.reduceAdd, Nat.zero_add]
  rw [fev_rd (slh rfl (by omega))]
  simp only [fe_cons, fev_pure, execOp, opd, opt, putT, put, nth, Nat.reduceAdd]
  rw [fev_rd (sll rfl (by omega))]
  simp only [fe_cons, execOp, opd, opds, putT, put, nth, doCall, builtin, two2, Nat.reduceAdd]
  have hsub : Rds h 1 (.sl id (i + 1) (cnt - (i + 1)) none 1) (cnt - (i + 1)) (xs.drop (i + 1)) := .sl id (i + 1) _ none (.l cells) 128 _ hh (by rw [List.length_drop, hxl]; omega) (by rw [List.length_drop, hxl]; show i + 1 + _ ≤ cells.length; omega) (fun j hj => by
    rw [List.length_drop, hxl] at hj
    subst hx
    rw [Cont.at_l (by omega), List.getElem_drop, List.getElem_take])
  have hone : (xs.drop (i + 1)).all oneCell = true := by
    rw [List.all_eq_true] at h1 ⊢
    exact fun x hx => h1 x (List.mem_of_mem_drop hx)
  have hdl : (xs.drop (i + 1)).length = cnt - (i + 1) := by rw [List.length_drop, hxl]
  refine fev_any hf (wp_append_in (i := ⟨.pointer 31, 1, 8, .nilp⟩) (e := 128) (cap := none) (Q1 := fun v' h' n' => v' = .sl id 0 (cnt - 1) none 1 ∧ n' = n ∧ h' = upd h id (some (.row (.l (splice cells i (xs.drop (i + 1)))) 128))) hh hsub u95 u95 ti128 hone (by decide) (by show (i + (cnt - (i + 1))) * 1 ≤ _; omega) (fun m hm => by cases hm) ?_) fun v5 h5 n5 r5 w5 hn5 f5 ⟨e1, e2, e3⟩ => ?_
  · refine ⟨by rw [show i + (cnt - (i + 1)) = cnt - 1 by omega], rfl, ?_⟩
    rw [Nat.mul_one]
  subst e1; subst e2; subst e3
  simp only [fe_nil, fe_cons, fev_pure, core1, fgr, execOp, opd, opds, opt, putT, put, nth, forgetL, doCall, builtin, one1, blr, Nat.reduceAdd]
  refine ⟨(by (try simp (disch := first | assumption | omega) only [fine, List.all_cons, List.all_nil, clash_pl, clash_pr, Bool.not_false, Bool.true_or, Bool.and_true]); repeat' (first | rfl | exact (Bool.or_eq_true _ _).mpr (.inr rfl) | refine (Bool.and_eq_true _ _).mpr ⟨?_, ?_⟩)), ?_⟩
  have hsl : (splice cells i (xs.drop (i + 1))).length = cells.length := splice_len (by rw [hdl]; omega)
  rw [opv_rd (slb rfl rfl (by omega) (by rw [hsl]; omega) (upd_same _ _ _))]
  simp only [core1, execOp, opd, opds, putT, put, nth, doCall, builtin, one1]
  rw [show cnt - (cnt - 1) = 1 by omega]
  refine wp_mono (clr (upd_same _ _ _) (by rw [hsl]; omega)) fun v6 h6 n6 ⟨e1, e2⟩ => ?_
  subst e1; subst e2
  simp only [core1, fgr, execOp, opd, putT, put, nth, forgetL, true_and]
  refine ⟨_, ?_, ?_, upd_same _ _ _, fun j hj => by rw [upd_ne _ _ hj, upd_ne _ _ hj]⟩
  · rw [splice_len (by rw [hsl]; simp; omega), hsl]
  · have a1 : (splice (splice cells i (xs.drop (i + 1))) (cnt - 1) [AVal.nilp]).take (cnt - 1) = (splice cells i (xs.drop (i + 1))).take (cnt - 1) := by
      unfold splice
      rw [List.take_append_of_le_length (by rw [List.length_take]; simp only [List.length_append, List.length_take, List.length_drop]; omega), List.take_take, Nat.min_self]
    have a2 := take_splice (xs := cells) (ys := xs.drop (i + 1)) (a := i) (by rw [hdl]; omega)
    rw [hdl, show i + (cnt - (i + 1)) = cnt - 1 by omega] at a2
    rw [a1, a2]
    unfold delL
    rw [← hx, List.take_take, Nat.min_eq_left (by omega)]
theorem f79 (o : Bool) (x off : Nat) (cs : List AVal) (v : AVal) (t : Nat) (st : AVal) (tv : Ver) (cnt : Nat) (xs : List AVal) (vs : List Ver) (D : Nat → Prop) (h : Hp) (n : Nat) (hr : Row h x cs) (hc0 : cs[off]? = some v) (hc1 : cs[off + 1]? = some (fo o)) (hc : cnt ≤ 10000000) (hv : Lp h v cnt xs) (hp : Ps h D xs vs) (hD : ∀ j, D j → j < n ∧ ownId v ≠ some j) (ht : AtN h n t st tv)
    (hmono : Mono o vs tv) (hin : ∃ w ∈ vs, ¬ cmpO o w tv < 0) (hx : x < n) (hxv : ownId v ≠ some x) (hf : Free h n) :
    Wp (callI env (evalW env) 79 [.ptr x off, .ptr t 0]) h n fun v' h' n' => v' = .tup [] ∧ ∃ p id, Pos o vs tv p ∧ p < cnt ∧ ownId v = some id ∧ Lp h' (.sl id 0 (cnt - 1) none 1) (cnt - 1) (delL xs p) ∧ Row h' x (splice cs off [.sl id 0 (cnt - 1) none 1]) ∧ ∀ j, j < n → j ≠ x → ownId v ≠ some j → h' j = h j := by
  have hcl : cnt = vs.length := by have := hv.rds.length; have := hp.len; omega
  have ho : off < cs.length := (List.getElem?_eq_some_iff.1 hc0).1
  refine wp_callI ff79 fi79 ?_
  simp only [fu79, Try.f79, Option.getD_some, List.replicate, core1, hkr, execOp, opd, opds, putT, put, nth, doCall, callV_func, ended, resultOf, oneOrTup, List.cons_append, List.nil_append, List.append_nil, List.length_cons, List.length_nil, Nat.reduceAdd, Nat.reduceSub, true_and, Nat.zero_add, wp_pure]
  refine opv_callf hf (f103 o x off cs v t st tv cnt xs vs D h n hr hc0 hc1 (by omega) hv.rds (fun j hj => hv.live hf hj) hp (fun j hj => (hD j hj).1) ht hmono hf) fun v1 h1 n1 hn1 f1 ⟨p, hP, e1, o1⟩ => ?_
  subst e1
  have hpc : p < cnt := by
    obtain ⟨w, hw, hwt⟩ := hin
    obtain ⟨k, hk, rfl⟩ := List.mem_iff_getElem.1 hw
    by_cases q : p < cnt
    · exact q
    · exact absurd (hP.lo k hk (by omega)) hwt
  have hr1 := hr.keep (o1 x hx)
  have hv1 := hv.keep (h' := h1) (fun j hj => o1 j (hv.live hf hj))
  have hvn : ∀ j, ownId v = some j → j < n := fun j hj => hv.live hf hj
  have hxo := hp.cells
  cases hv1 with
  | nil => omega
  | zero id off c hh hs => omega
  | sl id cnt cells xs hh h0 hl hxx =>
  have w1 : IntKind.i64.wrap (((p : Nat) : Int) + 1) = ((p + 1 : Nat) : Int) := by rw [w64 (by omega) (by omega)]; omega
  simp only [core1, tyr, fgr, execOp, opd, putT, put, nth, forgetL, und, sizeOf, nilCheck, extract, getO, moved, fieldAddr, List.getElem?_cons_succ, List.getElem?_cons_zero, Nat.add_zero]
  rw [opv_rd (hr1.one hc0 ti95 rfl)]
  simp only [core1, hkr, execOp, opd, opds, ofValue, putT, put, nth, doCall, callV_func, bor, binInt, shiftB, intOp, wrapI, List.nil_append, List.append_nil, decide_true, w1]
  refine opv_callf f1 (f105 id cnt p cells xs h1 n1 hh hl hxx hpc hc hxo f1) fun v3 h3 n3 hn3 f3 ⟨e3, e3n, cells', l3, t3, r3, o3⟩ => ?_
  subst e3; subst e3n
  have hxid : x ≠ id := fun e => hxv (by rw [e]; rfl)
  obtain ⟨ex, hx3⟩ := hr1.keep (h' := h3) (o3 x hxid)
  simp only [core1, tyr, execOp, opd, putT, put, nth, und, sizeOf, nilCheck, getO, moved, fieldAddr, List.getElem?_cons_zero, Nat.add_zero]
  rw [opv_wr (Row.write (v := .sl id 0 (cnt - 1) none 1) hx3 ti95 rfl (by show off + 1 ≤ _; omega) rfl)]
  simp only [core1, fgr, putT, forgetL, cel, true_and]
  refine ⟨p, id, hP, hpc, rfl, .sl _ _ _ _ ((upd_ne _ _ (fun e => hxid e.symm)).trans r3) (by omega) (by omega) t3, Row.new _ _ _ _, fun j hj hjx hjv => ?_⟩
  rw [upd_ne _ _ hjx, o3 j (fun e => hjv (by rw [e]; rfl)), o1 j hj]
/-- A comparison in three ways. -/
structure Ord3 {α : Type} (c : α → α → Int) : Prop where
  refl : ∀ a, c a a = 0
  anti : ∀ a b, c b a = - c a b
  lt : ∀ a b d, c a b < 0 → c b d < 0 → c a d < 0
  eqv : ∀ a b d, c a b = 0 → c a d = c b d
theorem cmpI_lt {a b : Int} : cmpI a b < 0 ↔ a < b := by unfold cmpI; split <;> (try split) <;> omega
theorem cmpI_eq {a b : Int} : cmpI a b = 0 ↔ a = b := by unfold cmpI; split <;> (try split) <;> omega
theorem ord_cmpI : Ord3 cmpI where
  refl := fun a => cmpI_eq.2 rfl
  anti := fun a b => by unfold cmpI; split <;> (try split) <;> (try split) <;> (try split) <;> omega
  lt := fun a b d h1 h2 => by rw [cmpI_lt] at *; omega
  eqv := fun a b d h => by rw [cmpI_eq.1 h]
theorem cb_refl : ∀ a : List UInt8, Lib.compareBytes a a = 0
  | [] => rfl
  | x :: a => by
    simp only [Lib.compareBytes, UInt8.lt_irrefl]
    exact cb_refl a
theorem cb_anti : ∀ a b : List UInt8, Lib.compareBytes b a = - Lib.compareBytes a b
  | [], [] => rfl
  | [], _ :: _ => rfl
  | _ :: _, [] => rfl
  | x :: a, y :: b => by
    simp only [Lib.compareBytes]
    by_cases h1 : x < y
    · have h2 : ¬ y < x := fun h => by rw [UInt8.lt_iff_toNat_lt] at *; omega
      rw [if_pos h1, if_neg h2, if_pos h1]; rfl
    · by_cases h2 : y < x
      · rw [if_pos h2, if_neg h1, if_pos h2]
      · rw [if_neg h1, if_neg h2, if_neg h2, if_neg h1]; exact cb_anti a b
theorem cb_eq : ∀ a b : List UInt8, Lib.compareBytes a b = 0 → a = b
  | [], [], _ => rfl
  | [], _ :: _, h => by simp [Lib.compareBytes] at h
  | _ :: _, [], h => by simp [Lib.compareBytes] at h
  | x :: a, y :: b, h => by
    simp only [Lib.compareBytes] at h
    by_cases h1 : x < y
    · rw [if_pos h1] at h; omega
    · rw [if_neg h1] at h
      by_cases h2 : y < x
      · rw [if_pos h2] at h; omega
      · rw [if_neg h2] at h
        have e : x = y := by
          apply UInt8.toNat_inj.1
          rw [UInt8.lt_iff_toNat_lt] at *; omega
        rw [e, cb_eq a b h]
theorem cb_lt : ∀ a b d : List UInt8, Lib.compareBytes a b < 0 → Lib.compareBytes b d < 0 → Lib.compareBytes a d < 0
  | [], [], d, h, _ => by simp [Lib.compareBytes] at h
  | [], _ :: _, [], _, h => by simp [Lib.compareBytes] at h
  | [], _ :: _, _ :: _, _, _ => by simp [Lib.compareBytes]
  | _ :: _, [], _, h, _ => by simp [Lib.compareBytes] at h
  | _ :: _, _ :: _, [], _, h => by simp [Lib.compareBytes] at h
  | x :: a, y :: b, z :: d, h1, h2 => by
    simp only [Lib.compareBytes] at *
    by_cases p : x < y
    · by_cases q : y < z
      · rw [if_pos (by rw [UInt8.lt_iff_toNat_lt] at *; omega)]; decide
      · by_cases q2 : z < y
        · rw [if_neg q, if_pos q2] at h2; omega
        · rw [if_pos (by rw [UInt8.lt_iff_toNat_lt] at *; omega)]; decide
    · by_cases p2 : y < x
      · rw [if_neg p, if_pos p2] at h1; omega
      · rw [if_neg p, if_neg p2] at h1
        by_cases q : y < z
        · rw [if_pos (by rw [UInt8.lt_iff_toNat_lt] at *; omega)]; decide
        · by_cases q2 : z < y
          · rw [if_neg q, if_pos q2] at h2; omega
          · rw [if_neg q, if_neg q2] at h2
            rw [if_neg (by rw [UInt8.lt_iff_toNat_lt] at *; omega), if_neg (by rw [UInt8.lt_iff_toNat_lt] at *; omega)]
            exact cb_lt a b d h1 h2
theorem ord_bytes : Ord3 Lib.compareBytes := ⟨cb_refl, cb_anti, cb_lt, fun a b d h => by rw [cb_eq a b h]⟩
/-- One after the other. -/
theorem Ord3.or {α : Type} {c1 c2 : α → α → Int} (a1 : Ord3 c1) (a2 : Ord3 c2) : Ord3 (fun a b => orI (c1 a b) (c2 a b)) where
  refl := fun a => by simp [orI, a1.refl, a2.refl]
  anti := fun a b => by
    have h1 := a1.anti a b
    have h2 := a2.anti a b
    simp only [orI]
    by_cases h : c1 a b = 0
    · rw [if_pos (by omega), if_pos h, h2]
    · rw [if_neg (by omega), if_neg h, h1]
  lt := fun a b d h1 h2 => by
    simp only [orI] at *
    by_cases e1 : c1 a b = 0
    · rw [if_pos e1] at h1
      rw [a1.eqv a b d e1]
      by_cases e2 : c1 b d = 0
      · rw [if_pos e2] at h2 ⊢
        exact a2.lt a b d h1 h2
      · rw [if_neg e2] at h2 ⊢
        exact h2
    · rw [if_neg e1] at h1
      by_cases e2 : c1 b d = 0
      · have e3 : c1 d a = c1 b a := by
          have := a1.eqv b d a e2
          exact this.symm
        have e4 := a1.anti d a
        have e5 := a1.anti b a
        rw [if_neg (by omega)]; omega
      · rw [if_neg e2] at h2
        have := a1.lt a b d h1 h2
        rw [if_neg (by omega)]; exact this
  eqv := fun a b d h => by
    simp only [orI] at *
    by_cases e1 : c1 a b = 0
    · rw [if_pos e1] at h
      rw [a1.eqv a b d e1, a2.eqv a b d h]
    · rw [if_neg e1] at h; exact absurd h e1
theorem Ord3.on {α β : Type} {c : β → β → Int} (o : Ord3 c) (f : α → β) : Ord3 (fun a b => c (f a) (f b)) := ⟨fun a => o.refl _, fun a b => o.anti _ _, fun a b d => o.lt _ _ _, fun a b d => o.eqv _ _ _⟩
theorem ordV : Ord3 cmpV := ((ord_bytes.on Ver.hash).or (ord_cmpI.on Ver.pn)).or (ord_cmpI.on Ver.made)
theorem ordS : Ord3 cmpS := (ord_bytes.on Ver.script).or ordV
theorem ordO (o : Bool) : Ord3 (cmpO o) := by cases o; exact ordV; exact ordS
theorem Ord3.eqr {α : Type} {c : α → α → Int} (o : Ord3 c) {a b d : α} (h : c a b = 0) : c d a = c d b := by
  have h1 := o.eqv a b d h
  have h2 := o.anti a d
  have h3 := o.anti b d
  omega
/-- A list that rises. -/
def Rises (o : Bool) (vs : List Ver) : Prop := vs.Pairwise fun a b => cmpO o a b < 0
theorem Rises.at_ {o : Bool} {vs : List Ver} (r : Rises o vs) {i j : Nat} (hi : i < vs.length) (hj : j < vs.length) (h : i < j) : cmpO o vs[i] vs[j] < 0 := List.pairwise_iff_getElem.1 r i j hi hj h
theorem Rises.mono {o : Bool} {vs : List Ver} (r : Rises o vs) (t : Ver) : Mono o vs t := fun a b ha hb hab h => (ordO o).lt _ _ _ (r.at_ ha hb hab) h
theorem isAt_iff {o : Bool} {vs : List Ver} {t : Ver} {p : Nat} (r : Rises o vs) (hp : Pos o vs t p) : isAt o vs t p = true ↔ ∃ w ∈ vs, cmpO o w t = 0 := by
  unfold isAt
  constructor
  · intro h
    cases e : vs[p]? with
    | none => rw [e] at h; cases h
    | some w =>
      rw [e] at h
      exact ⟨w, List.mem_of_getElem? e, of_decide_eq_true h⟩
  · rintro ⟨w, hw, he⟩
    obtain ⟨k, hk, rfl⟩ := List.mem_iff_getElem.1 hw
    have h1 : ¬ k < p := fun h => by have := hp.lo k hk h; omega
    have h2 : ¬ p < k := fun h => by
      have hpl : p < vs.length := by omega
      have := r.at_ hpl hk h
      rw [(ordO o).eqr he] at this
      exact hp.hi p hpl (Nat.le_refl _) this
    have : k = p := by omega
    subst this
    rw [List.getElem?_eq_getElem hk]
    exact decide_eq_true he
theorem insL_mem {α : Type} {l : List α} {k : Nat} {v w : α} : w ∈ insL l k v ↔ w = v ∨ w ∈ l := by
  unfold insL
  rw [List.mem_append, List.mem_cons]
  constructor
  · rintro (h | h | h)
    · exact .inr (List.mem_of_mem_take h)
    · exact .inl h
    · exact .inr (List.mem_of_mem_drop h)
  · rintro (h | h)
    · exact .inr (.inl h)
    · rw [← List.take_append_drop k l, List.mem_append] at h
      exact h.elim .inl fun h => .inr (.inr h)
theorem insL_perm {α : Type} (l : List α) (k : Nat) (v : α) : (insL l k v).Perm (v :: l) := by
  unfold insL
  have h := @List.perm_middle α v (l.take k) (l.drop k)
  rwa [List.take_append_drop] at h
theorem delL_perm {α : Type} {l : List α} {k : Nat} (h : k < l.length) : l.Perm (l[k] :: delL l k) := by
  unfold delL
  have h1 : l = l.take k ++ l[k] :: l.drop (k + 1) := by
    rw [List.getElem_cons_drop, List.take_append_drop]
  have h2 := @List.perm_middle α l[k] (l.take k) (l.drop (k + 1))
  exact (List.Perm.of_eq h1).trans h2
theorem ins_rises {o : Bool} {vs : List Ver} {t : Ver} {p : Nat} (r : Rises o vs) (hp : Pos o vs t p) (hn : ∀ w ∈ vs, cmpO o w t ≠ 0) : Rises o (insL vs p t) := by
  unfold insL Rises
  have r' := r
  rw [Rises, ← List.take_append_drop p vs, List.pairwise_append] at r'
  obtain ⟨r1, r2, r3⟩ := r'
  rw [List.pairwise_append, List.pairwise_cons]
  have hlo : ∀ a ∈ vs.take p, cmpO o a t < 0 := fun a ha => by
    obtain ⟨k, hk, rfl⟩ := List.mem_iff_getElem.1 ha
    rw [List.length_take] at hk
    rw [List.getElem_take]
    exact hp.lo k (by omega) (by omega)
  have hhi : ∀ a ∈ vs.drop p, cmpO o t a < 0 := fun a ha => by
    obtain ⟨k, hk, rfl⟩ := List.mem_iff_getElem.1 ha
    rw [List.length_drop] at hk
    rw [List.getElem_drop]
    have h1 := hp.hi (p + k) (by omega) (by omega)
    have h2 := hn _ (List.getElem_mem (show p + k < vs.length by omega))
    have h3 := (ordO o).anti vs[p + k] t
    omega
  refine ⟨r1, ⟨hhi, r2⟩, fun a ha b hb => ?_⟩
  rcases List.mem_cons.1 hb with rfl | hb
  · exact hlo a ha
  · exact r3 a ha b hb
theorem del_rises {o : Bool} {vs : List Ver} (r : Rises o vs) (p : Nat) : Rises o (delL vs p) := by
  refine List.Pairwise.sublist ?_ r
  unfold delL
  conv => rhs; rw [← List.take_append_drop p vs]
  exact List.Sublist.append (List.Sublist.refl _) (List.drop_sublist_drop_left _ (by omega))
/- An index in memory; what is put into its lists, and dropped. -/
theorem Ps.ins {h : Hp} {D : Nat → Prop} {xs : List AVal} {vs : List Ver} (p : Ps h D xs vs) {t : Nat} {st : AVal} {tv : Ver} (a : At h t st tv) (d1 : D t) (d2 : ∀ j, ownId st = some j → D j) (k : Nat) : Ps h D (insL xs k (.ptr t 0)) (insL vs k tv) := by
  have hl := p.len
  refine ⟨by rw [insL_length, insL_length, hl], fun j x v hx hv => ?_⟩
  unfold insL at hx hv
  by_cases c : j < (xs.take k).length
  · have c2 : j < (vs.take k).length := by rw [List.length_take] at *; omega
    rw [List.getElem?_append_left c, List.getElem?_take] at hx
    rw [List.getElem?_append_left c2, List.getElem?_take] at hv
    split at hx
    · rename_i q
      rw [if_pos q] at hv
      exact p.at_ j x v hx hv
    · cases hx
  · have e1 : (xs.take k).length = (vs.take k).length := by rw [List.length_take, List.length_take, hl]
    rw [List.getElem?_append_right (by omega)] at hx
    rw [List.getElem?_append_right (by omega), ← e1] at hv
    cases hc : j - (xs.take k).length with
    | zero =>
      rw [hc] at hx hv
      injection hx with hx
      injection hv with hv
      subst hx; subst hv
      exact ⟨t, st, rfl, a, d1, d2⟩
    | succ m =>
      rw [hc] at hx hv
      rw [List.getElem?_cons_succ, List.getElem?_drop] at hx hv
      exact p.at_ _ x v hx hv
theorem Ps.del {h : Hp} {D : Nat → Prop} {xs : List AVal} {vs : List Ver} (p : Ps h D xs vs) (k : Nat) : Ps h D (delL xs k) (delL vs k) := by
  have hl := p.len
  have e1 : (xs.take k).length = (vs.take k).length := by rw [List.length_take, List.length_take, hl]
  refine ⟨by unfold delL; rw [List.length_append, List.length_append, e1, List.length_drop, List.length_drop, hl], fun j x v hx hv => ?_⟩
  unfold delL at hx hv
  by_cases c : j < (xs.take k).length
  · rw [List.getElem?_append_left c, List.getElem?_take] at hx
    rw [List.getElem?_append_left (by omega), List.getElem?_take] at hv
    split at hx
    · rename_i q
      rw [if_pos q] at hv
      exact p.at_ j x v hx hv
    · cases hx
  · rw [List.getElem?_append_right (by omega), List.getElem?_drop] at hx
    rw [List.getElem?_append_right (by omega), ← e1, List.getElem?_drop] at hv
    exact p.at_ _ x v hx hv
/-- An index: two lists of the same versions. -/
structure IxV (h : Hp) (n : Nat) (D : Nat → Prop) (x : Nat) (vl vs : AVal) (xl xs : List AVal) (L S : List Ver) : Prop where
  row : Row h x [.bool true, vl, fo false, vs, fo true]
  l : Lp h vl L.length xl
  lp : Ps h D xl L
  s : Lp h vs S.length xs
  sp : Ps h D xs S
  xn : x < n
  dn : ∀ j, D j → j < n
  xd : ¬ D x
  vlx : ∀ j, ownId vl = some j → j ≠ x ∧ ¬ D j
  vsx : ∀ j, ownId vs = some j → j ≠ x ∧ ¬ D j ∧ ownId vl ≠ some j
def IxS (h : Hp) (n : Nat) (D M : Nat → Prop) (x : Nat) (L S : List Ver) : Prop :=
  ∃ vl vs xl xs, IxV h n D x vl vs xl xs L S ∧ M x ∧ (∀ j, ownId vl = some j → M j) ∧ (∀ j, ownId vs = some j → M j) ∧ ∀ j, M j → j < n ∧ ¬ D j
/-- What a change leaves. -/
structure Ch2 (h : Hp) (n : Nat) (M : Nat → Prop) (h' : Hp) (n' : Nat) (M' : Nat → Prop) : Prop where
  nx : n ≤ n'
  fr : Free h' n'
  m' : ∀ j, M' j → M j ∨ n ≤ j
  old : ∀ j, j < n → ¬ M j → h' j = h j
theorem Ch2.trans {h h1 h2 : Hp} {n n1 n2 : Nat} {M M1 M2 : Nat → Prop} (a : Ch2 h n M h1 n1 M1) (b : Ch2 h1 n1 M1 h2 n2 M2) : Ch2 h n M h2 n2 M2 where
  nx := Nat.le_trans a.nx b.nx
  fr := b.fr
  m' := fun j hj => (b.m' j hj).elim (a.m' j) (fun q => .inr (Nat.le_trans a.nx q))
  old := fun j hj hm => by
    rw [b.old j (by have := a.nx; omega) (fun q => by
      rcases a.m' j q with q | q
      · exact hm q
      · omega)]
    exact a.old j hj hm
theorem Ch2.of {h h' : Hp} {n n' : Nat} {M : Nat → Prop} (hf : Free h' n') (hn : n ≤ n') (ho : Old h h' n) : Ch2 h n M h' n' M := ⟨hn, hf, fun _ h => .inl h, fun j hj _ => ho j hj⟩
theorem IxS.beside {h h' : Hp} {n n' : Nat} {D M : Nat → Prop} {x : Nat} {L S : List Ver} (s : IxS h n D M x L S) (hn : n ≤ n') (ho : ∀ j, j < n → (D j ∨ M j) → h' j = h j) : IxS h' n' D M x L S := by
  obtain ⟨vl, vs, xl, xs, sv, mx, ml, ms, mn⟩ := s
  refine ⟨vl, vs, xl, xs, ⟨sv.row.keep (ho x sv.xn (.inr mx)), sv.l.keep (fun j q => ho j (mn j (ml j q)).1 (.inr (ml j q))), sv.lp.mono (fun j q => q) (fun j q => ho j (sv.dn j q) (.inl q)), sv.s.keep (fun j q => ho j (mn j (ms j q)).1 (.inr (ms j q))), sv.sp.mono (fun j q => q) (fun j q => ho j (sv.dn j q) (.inl q)), by have := sv.xn; omega, fun j q => by have := sv.dn j q; omega, sv.xd, sv.vlx, sv.vsx⟩, mx, ml, ms, fun j q => ⟨by have := (mn j q).1; omega, (mn j q).2⟩⟩
theorem IxS.old {h h' : Hp} {n n' : Nat} {D M : Nat → Prop} {x : Nat} {L S : List Ver} (s : IxS h n D M x L S) (hn : n ≤ n') (ho : Old h h' n) : IxS h' n' D M x L S := s.beside hn fun j hj _ => ho j hj
theorem wp_free {m : M AVal} {h : Hp} {n : Nat} {Q Q' : AVal → Hp → Nat → Prop} (hf : Free h n) (hw : Wp m h n Q) (hq : ∀ v h' n', n ≤ n' → Free h' n' → Q v h' n' → Q' v h' n') : Wp m h n Q' :=
  wp_mono (hw.free hf) fun v h' n' hh => hq v h' n' hh.2.1 hh.2.2 hh.1
theorem putL (x t : Nat) (st : AVal) (tv : Ver) (L S : List Ver) (D M : Nat → Prop) (h : Hp) (n : Nat) (hs : IxS h n D M x L S) (ht : AtN h n t st tv) (htm : ¬ M t) (hsm : ∀ j, ownId st = some j → ¬ M j) (hr : Rises false L) (hc : L.length ≤ 1000000) (hf : Free h n) :
    Wp (callI env (evalW env) 78 [.ptr x 1, .ptr t 0]) h n fun v' h' n' => v' = .tup [] ∧ ∃ p M', Pos false L tv p ∧ IxS h' n' (fun j => D j ∨ j = t ∨ ownId st = some j) M' x (insL L p tv) S ∧ Ch2 h n M h' n' M' := by
  obtain ⟨vl, vs, xl, xs, sv, mx, ml, ms, mn⟩ := hs
  refine wp_free hf (f78 false x 1 _ vl t st tv L.length xl L D h n sv.row rfl rfl (by omega) sv.l sv.lp (fun j hj => ⟨sv.dn j hj, fun q => (sv.vlx j q).2 hj⟩) ht (hr.mono tv) sv.xn (fun q => (sv.vlx x q).1 rfl) hf) fun v' h' n' hn' f' ⟨e, p, m, hp, hm1, hm2, l', r', o'⟩ => ?_
  have hil : (insL L p tv).length = L.length + 1 := insL_length _ _ _
  have keepD : ∀ j, (D j ∨ j = t ∨ ownId st = some j) → h' j = h j := fun j q => by
    rcases q with q | q | q
    · exact o' j (sv.dn j q) (fun e => sv.xd (by rw [← e]; exact q)) (fun e => (sv.vlx j e).2 q)
    · subst q; exact o' _ ht.idn (fun e => htm (by rw [e]; exact mx)) (fun e => htm (ml _ e))
    · exact o' j (ht.sn j q) (fun e => hsm j q (by rw [e]; exact mx)) (fun e => hsm j q (ml j e))
  have hne : ∀ j, (D j ∨ j = t ∨ ownId st = some j) → j < n ∧ j ≠ x ∧ ownId vs ≠ some j := fun j q => by
    rcases q with q | q | q
    · exact ⟨sv.dn j q, fun e => sv.xd (by rw [← e]; exact q), fun e => (sv.vsx j e).2.1 q⟩
    · subst q; exact ⟨ht.idn, fun e => htm (by rw [e]; exact mx), fun e => htm (ms _ e)⟩
    · exact ⟨ht.sn j q, fun e => hsm j q (by rw [e]; exact mx), fun e => hsm j q (ms j e)⟩
  have hw : ∀ j, ownId vs = some j → h' j = h j := fun j q => o' j (mn j (ms j q)).1 ((sv.vsx j q).1) (fun e => (sv.vsx j q).2.2 e)
  refine ⟨e, p, fun j => j = x ∨ ownId vs = some j ∨ j = m, hp, ⟨.sl m 0 (L.length + 1) none 1, vs, insL xl p (.ptr t 0), xs, ⟨r', ?_, ?_, ?_, ?_, by have := sv.xn; omega, fun j q => by have := (hne j q).1; omega, fun q => (hne x q).2.1 rfl, fun j q => ?_, fun j q => ?_⟩, .inl rfl, fun j q => ?_, fun j q => ?_, fun j q => ?_⟩, ⟨hn', f', fun j q => ?_, fun j hj hm => o' j hj (fun e => hm (by rw [e]; exact mx)) (fun e => hm (ml j e))⟩⟩
  · rw [hil]; exact l'
  · exact ((sv.lp.mono (D' := fun j => D j ∨ j = t ∨ ownId st = some j) (fun j q => .inl q) (fun j q => keepD j (.inl q)))).ins (ht.toAt.keep (keepD t (.inr (.inl rfl))) (fun j q => keepD j (.inr (.inr q)))) (.inr (.inl rfl)) (fun j q => .inr (.inr q)) p
  · exact sv.s.keep hw
  · exact sv.sp.mono (fun j q => .inl q) (fun j q => keepD j (.inl q))
  · injection q with q
    subst q
    exact ⟨by have := sv.xn; omega, fun w => by have := (hne _ w).1; omega⟩
  · exact ⟨(sv.vsx j q).1, fun w => (hne j w).2.2 q, fun w => by injection w with w; have := (mn j (ms j q)).1; omega⟩
  · injection q with q; exact .inr (.inr q.symm)
  · exact .inr (.inl q)
  · rcases q with q | q | q
    · subst q; exact ⟨by have := sv.xn; omega, fun w => (hne _ w).2.1 rfl⟩
    · exact ⟨by have := (mn j (ms j q)).1; omega, fun w => (hne j w).2.2 q⟩
    · subst q; exact ⟨hm2, fun w => by have := (hne _ w).1; omega⟩
  · rcases q with q | q | q
    · subst q; exact .inl mx
    · exact .inl (ms j q)
    · exact .inr (by omega)
theorem putS (x t : Nat) (st : AVal) (tv : Ver) (L S : List Ver) (D M : Nat → Prop) (h : Hp) (n : Nat) (hs : IxS h n D M x L S) (ht : AtN h n t st tv) (htm : ¬ M t) (hsm : ∀ j, ownId st = some j → ¬ M j) (hr : Rises true S) (hc : S.length ≤ 1000000) (hf : Free h n) :
    Wp (callI env (evalW env) 78 [.ptr x 3, .ptr t 0]) h n fun v' h' n' => v' = .tup [] ∧ ∃ p M', Pos true S tv p ∧ IxS h' n' (fun j => D j ∨ j = t ∨ ownId st = some j) M' x L (insL S p tv) ∧ Ch2 h n M h' n' M' := by
  obtain ⟨vl, vs, xl, xs, sv, mx, ml, ms, mn⟩ := hs
  refine wp_free hf (f78 true x 3 _ vs t st tv S.length xs S D h n sv.row rfl rfl (by omega) sv.s sv.sp (fun j hj => ⟨sv.dn j hj, fun q => (sv.vsx j q).2.1 hj⟩) ht (hr.mono tv) sv.xn (fun q => (sv.vsx x q).1 rfl) hf) fun v' h' n' hn' f' ⟨e, p, m, hp, hm1, hm2, l', r', o'⟩ => ?_
  have hil : (insL S p tv).length = S.length + 1 := insL_length _ _ _
  have keepD : ∀ j, (D j ∨ j = t ∨ ownId st = some j) → h' j = h j := fun j q => by
    rcases q with q | q | q
    · exact o' j (sv.dn j q) (fun e => sv.xd (by rw [← e]; exact q)) (fun e => (sv.vsx j e).2.1 q)
    · subst q; exact o' _ ht.idn (fun e => htm (by rw [e]; exact mx)) (fun e => htm (ms _ e))
    · exact o' j (ht.sn j q) (fun e => hsm j q (by rw [e]; exact mx)) (fun e => hsm j q (ms j e))
  have hne : ∀ j, (D j ∨ j = t ∨ ownId st = some j) → j < n ∧ j ≠ x ∧ ownId vl ≠ some j := fun j q => by
    rcases q with q | q | q
    · exact ⟨sv.dn j q, fun e => sv.xd (by rw [← e]; exact q), fun e => (sv.vlx j e).2 q⟩
    · subst q; exact ⟨ht.idn, fun e => htm (by rw [e]; exact mx), fun e => htm (ml _ e)⟩
    · exact ⟨ht.sn j q, fun e => hsm j q (by rw [e]; exact mx), fun e => hsm j q (ml j e)⟩
  have hw : ∀ j, ownId vl = some j → h' j = h j := fun j q => o' j (mn j (ml j q)).1 ((sv.vlx j q).1) (fun e => (sv.vsx j e).2.2 q)
  refine ⟨e, p, fun j => j = x ∨ ownId vl = some j ∨ j = m, hp, ⟨vl, .sl m 0 (S.length + 1) none 1, xl, insL xs p (.ptr t 0), ⟨r', ?_, ?_, ?_, ?_, by have := sv.xn; omega, fun j q => by have := (hne j q).1; omega, fun q => (hne x q).2.1 rfl, fun j q => ?_, fun j q => ?_⟩, .inl rfl, fun j q => ?_, fun j q => ?_, fun j q => ?_⟩, ⟨hn', f', fun j q => ?_, fun j hj hm => o' j hj (fun e => hm (by rw [e]; exact mx)) (fun e => hm (ms j e))⟩⟩
  · exact sv.l.keep hw
  · exact sv.lp.mono (fun j q => .inl q) (fun j q => keepD j (.inl q))
  · rw [hil]; exact l'
  · exact ((sv.sp.mono (D' := fun j => D j ∨ j = t ∨ ownId st = some j) (fun j q => .inl q) (fun j q => keepD j (.inl q)))).ins (ht.toAt.keep (keepD t (.inr (.inl rfl))) (fun j q => keepD j (.inr (.inr q)))) (.inr (.inl rfl)) (fun j q => .inr (.inr q)) p
  · exact ⟨(sv.vlx j q).1, fun w => (hne j w).2.2 q⟩
  · injection q with q
    subst q
    exact ⟨by have := sv.xn; omega, fun w => by have := (hne _ w).1; omega, fun w => by have := (mn _ (ml _ w)).1; omega⟩
  · exact .inr (.inl q)
  · injection q with q; exact .inr (.inr q.symm)
  · rcases q with q | q | q
    · subst q; exact ⟨by have := sv.xn; omega, fun w => (hne _ w).2.1 rfl⟩
    · exact ⟨by have := (mn j (ml j q)).1; omega, fun w => (hne j w).2.2 q⟩
    · subst q; exact ⟨hm2, fun w => by have := (hne _ w).1; omega⟩
  · rcases q with q | q | q
    · subst q; exact .inl mx
    · exact .inl (ml j q)
    · exact .inr (by omega)
theorem dropL (x t : Nat) (st : AVal) (tv : Ver) (L S : List Ver) (D M : Nat → Prop) (h : Hp) (n : Nat) (hs : IxS h n D M x L S) (ht : AtN h n t st tv) (hr : Rises false L) (hin : ∃ w ∈ L, cmpO false w tv = 0) (hc : L.length ≤ 1000000) (hf : Free h n) :
    Wp (callI env (evalW env) 79 [.ptr x 1, .ptr t 0]) h n fun v' h' n' => v' = .tup [] ∧ ∃ p, Pos false L tv p ∧ p < L.length ∧ IxS h' n' D M x (delL L p) S ∧ Ch2 h n M h' n' M := by
  obtain ⟨vl, vs, xl, xs, sv, mx, ml, ms, mn⟩ := hs
  refine wp_free hf (f79 false x 1 _ vl t st tv L.length xl L D h n sv.row rfl rfl (by omega) sv.l sv.lp (fun j hj => ⟨sv.dn j hj, fun q => (sv.vlx j q).2 hj⟩) ht (hr.mono tv) (by obtain ⟨w, hw, he⟩ := hin; exact ⟨w, hw, by omega⟩) sv.xn (fun q => (sv.vlx x q).1 rfl) hf) fun v' h' n' hn' f' ⟨e, p, id, hp, hpl, hid, l', r', o'⟩ => ?_
  have hdl : (delL L p).length = L.length - 1 := delL_length hpl
  have keepD : ∀ j, D j → h' j = h j := fun j q => o' j (sv.dn j q) (fun e => sv.xd (by rw [← e]; exact q)) (fun e => (sv.vlx j e).2 q)
  have hw : ∀ j, ownId vs = some j → h' j = h j := fun j q => o' j (mn j (ms j q)).1 ((sv.vsx j q).1) (fun e => (sv.vsx j q).2.2 e)
  refine ⟨e, p, hp, hpl, ⟨.sl id 0 (L.length - 1) none 1, vs, delL xl p, xs, ⟨r', ?_, ?_, ?_, ?_, by have := sv.xn; omega, fun j q => by have := sv.dn j q; omega, sv.xd, fun j q => ?_, fun j q => ?_⟩, mx, fun j q => ?_, fun j q => ?_, fun j q => ⟨by have := (mn j q).1; omega, (mn j q).2⟩⟩, ⟨hn', f', fun j q => .inl q, fun j hj hm => o' j hj (fun e => hm (by rw [e]; exact mx)) (fun e => hm (ml j e))⟩⟩
  · rw [hdl]; exact l'
  · exact (sv.lp.mono (fun j q => q) keepD).del p
  · exact sv.s.keep hw
  · exact sv.sp.mono (fun j q => q) keepD
  · injection q with q; subst q; exact sv.vlx _ hid
  · refine ⟨(sv.vsx j q).1, (sv.vsx j q).2.1, fun w => (sv.vsx j q).2.2 (by injection w with w; rw [← w]; exact hid)⟩
  · injection q with q; subst q; exact ml _ hid
  · exact ms j q
theorem dropS (x t : Nat) (st : AVal) (tv : Ver) (L S : List Ver) (D M : Nat → Prop) (h : Hp) (n : Nat) (hs : IxS h n D M x L S) (ht : AtN h n t st tv) (hr : Rises true S) (hin : ∃ w ∈ S, cmpO true w tv = 0) (hc : S.length ≤ 1000000) (hf : Free h n) :
    Wp (callI env (evalW env) 79 [.ptr x 3, .ptr t 0]) h n fun v' h' n' => v' = .tup [] ∧ ∃ p, Pos true S tv p ∧ p < S.length ∧ IxS h' n' D M x L (delL S p) ∧ Ch2 h n M h' n' M := by
  obtain ⟨vl, vs, xl, xs, sv, mx, ml, ms, mn⟩ := hs
  refine wp_free hf (f79 true x 3 _ vs t st tv S.length xs S D h n sv.row rfl rfl (by omega) sv.s sv.sp (fun j hj => ⟨sv.dn j hj, fun q => (sv.vsx j q).2.1 hj⟩) ht (hr.mono tv) (by obtain ⟨w, hw, he⟩ := hin; exact ⟨w, hw, by omega⟩) sv.xn (fun q => (sv.vsx x q).1 rfl) hf) fun v' h' n' hn' f' ⟨e, p, id, hp, hpl, hid, l', r', o'⟩ => ?_
  have hdl : (delL S p).length = S.length - 1 := delL_length hpl
  have keepD : ∀ j, D j → h' j = h j := fun j q => o' j (sv.dn j q) (fun e => sv.xd (by rw [← e]; exact q)) (fun e => (sv.vsx j e).2.1 q)
  have hw : ∀ j, ownId vl = some j → h' j = h j := fun j q => o' j (mn j (ml j q)).1 ((sv.vlx j q).1) (fun e => (sv.vsx j e).2.2 q)
  refine ⟨e, p, hp, hpl, ⟨vl, .sl id 0 (S.length - 1) none 1, xl, delL xs p, ⟨r', ?_, ?_, ?_, ?_, by have := sv.xn; omega, fun j q => by have := sv.dn j q; omega, sv.xd, fun j q => ?_, fun j q => ?_⟩, mx, fun j q => ?_, fun j q => ?_, fun j q => ⟨by have := (mn j q).1; omega, (mn j q).2⟩⟩, ⟨hn', f', fun j q => .inl q, fun j hj hm => o' j hj (fun e => hm (by rw [e]; exact mx)) (fun e => hm (ms j e))⟩⟩
  · exact sv.l.keep hw
  · exact sv.lp.mono (fun j q => q) keepD
  · rw [hdl]; exact l'
  · exact (sv.sp.mono (fun j q => q) keepD).del p
  · exact sv.vlx j q
  · injection q with q; subst q; exact sv.vsx _ hid
  · exact ml j q
  · injection q with q; subst q; exact ms _ hid
/-- What is looked for. -/
def key (hash : List UInt8) (pn made : Int) : Ver := ⟨hash, pn, made, 0, [], false, 0, List.replicate 32 0⟩
theorem key_ok {hash : List UInt8} {pn made : Int} (h : hash.length = 32) : (key hash pn made).Ok := ⟨h, rfl⟩
theorem fill_at {place : Nat → Option (Nat × Nat)} {i off sz : Nat} {pre mid post : List AVal} {v : AVal} {rest : List (Nat × AVal)} (hp : place i = some (off, sz)) (h1 : pre.length = off) (h2 : mid.length = sz) (h3 : v.cells.length = sz) (h4 : isJunk v = false) :
    fill place (pre ++ mid ++ post) ((i, v) :: rest) = fill place (pre ++ v.cells ++ post) rest := by
  have e1 : (off + sz).ble (pre ++ mid ++ post).length = true := ble_of (by simp only [List.length_append]; omega)
  have e2 : (pre ++ mid ++ post).take off = pre := by rw [List.append_assoc, List.take_left' h1]
  have e3 : (pre ++ mid ++ post).drop (off + sz) = post := by rw [List.drop_left' (by rw [List.length_append]; omega)]
  simp only [fill, hp, h4, Bool.not_false, h3, Nat.beq_refl, e1, Bool.and_self, e2, e3]
def z33 : List AVal := List.replicate 32 (.int .u8 0) ++ [.int .u32 0]
def z36 : List AVal := [.int .i64 0, .nils, .bool false, .int .i64 0] ++ List.replicate 32 (.int .u8 0)
theorem z31 : ty31.i.zero.cells = [] ++ z33 ++ ([.int .i64 0] ++ z36) := rfl
theorem build31 {hash : List UInt8} {pn made : Int} (hl : hash.length = 32) : build env 31 [(0, .agg (pcells hash pn)), (1, .int .i64 made)] = M.pure (.agg (vcells (key hash pn made) .nils)) := by
  have h1 : (AVal.agg (pcells hash pn)).cells.length = 33 := pcells_len hl
  have e1 : ∀ pl : Nat → Option (Nat × Nat), pl 0 = some (0, 33) → pl 1 = some (33, 1) → fill pl ty31.i.zero.cells [(0, .agg (pcells hash pn)), (1, .int .i64 made)] = some (vcells (key hash pn made) .nils) := fun pl p0 p1 => by
    rw [z31, fill_at p0 rfl rfl h1 rfl, List.nil_append, ← List.append_assoc]
    rw [fill_at p1 h1 rfl rfl rfl]
    simp only [fill]
    congr 1
    unfold vcells vtail key
    simp only [AVal.cells, List.append_assoc]
    congr 1
  have e2 : build env 31 [(0, .agg (pcells hash pn)), (1, .int .i64 made)] = (getO "build" (fill ([(0, 33), (33, 1), (34, 1), (35, 1), (36, 1), (37, 1), (38, 32)][·]?) ty31.i.zero.cells [(0, .agg (pcells hash pn)), (1, .int .i64 made)])).bind fun cs => M.pure (.agg cs) := rfl
  rw [e2, e1 _ rfl rfl]
  rfl
theorem f76 (x : Nat) (hash : List UInt8) (pn made : Int) (hl : hash.length = 32) (L S : List Ver) (D M : Nat → Prop) (h : Hp) (n : Nat) (hs : IxS h n D M x L S) (hr : Rises false L) (hc : L.length ≤ 1000000) (hf : Free h n) :
    Wp (callI env (evalW env) 76 [.ptr x 0, .agg (pcells hash pn), .int .i64 made]) h n fun v' h' n' => ((∀ w ∈ L, cmpV w (key hash pn made) ≠ 0) ∧ v' = .nilp ∨ ∃ id sv w, w ∈ L ∧ cmpV w (key hash pn made) = 0 ∧ v' = .ptr id 0 ∧ At h' id sv w ∧ D id ∧ ∀ j, ownId sv = some j → D j) ∧ Old h h' n := by
  have hs0 := hs
  obtain ⟨vl, vs, xl, xs, sv, mx, ml, ms, mn⟩ := hs
  refine wp_callI ff76 fi76 ?_
  simp only [fu76, Try.f76, Option.getD_some, List.replicate, core1, execOp, opd, nth, ended, resultOf, oneOrTup, List.cons_append, List.nil_append, List.length_cons, List.length_nil, Nat.reduceAdd, Nat.reduceSub, Nat.zero_add, wp_pure]
  refine opv_box (v := .agg (pcells hash pn)) ti28 rfl hf fun H1 r1 o1 f1 => ?_
  simp only [core1, fgr, execOp, opd, ofValue, putT, put, forgetL]
  refine run_draw.2 ⟨rfl, ?_⟩
  simp only [fe_cons, fev_pure, core1, tyr, execOp, opd, putT, put, nth, und, sizeOf, nilCheck, getO, moved, fieldAddr, List.getElem?_cons_succ, List.getElem?_cons_zero, Nat.reduceAdd, Nat.zero_add]
  have hld : Rd (load env 28 (.ptr n 0)) H1 (n + 1) [n] (.agg (pcells hash pn)) := Row.whole r1 ti28 rfl (pcells_len hl)
  rw [fev_rd hld]
  simp only [fe_cons, fev_pure, execOp, opd, ops2, putT, put, nth, Nat.reduceAdd, build31 hl]
  refine fev_box (v := .agg (vcells (key hash pn made) .nils)) ti31 rfl f1 fun H2 r w r2 o2 f2 => ?_
  simp only [fe_cons, hkr, execOp, opd, opds, putT, put, nth, doCall, callV_func, List.nil_append, List.append_nil, Nat.reduceAdd]
  have old2 : Old h H2 n := fun j hj => by rw [o2 j (by omega), o1 j (by omega)]
  have ht : AtN H2 (n + 1 + 1) (n + 1) .nils (key hash pn made) := ⟨⟨⟨_, r2⟩, .nils, key_ok hl⟩, by omega, fun j hj => by cases hj⟩
  have row2 := sv.row.keep (old2 x sv.xn)
  refine fev_any f2 (f103 false x 1 _ vl (n + 1) .nils (key hash pn made) L.length xl L D H2 _ row2 rfl rfl (by omega) (sv.l.keep (fun j q => old2 j (mn j (ml j q)).1)).rds (fun j q => by have := (mn j (ml j q)).1; omega) (sv.lp.mono (fun j q => q) (fun j q => old2 j (sv.dn j q))) (fun j q => by have := sv.dn j q; omega) ht (hr.mono _) f2) fun v3 h3 n3 r3 w3 hn3 f3 ⟨p, hP, e3, o3⟩ => ?_
  subst e3
  have old3 : Old h h3 n := fun j hj => by rw [o3 j (by omega), old2 j hj]
  simp only [fe_nil, fe_cons, fev_pure, core1, fgr, execOp, opd, putT, put, nth, forgetL, unOp, extract, getO, List.getElem?_cons_succ, List.getElem?_cons_zero, Nat.reduceAdd]
  refine ⟨(by (try simp (disch := first | assumption | omega) only [fine, List.all_cons, List.all_nil, clash_pl, clash_pr, clash_rr, Bool.not_false, Bool.true_or, Bool.and_true, Bool.true_and]); repeat' (first | rfl | exact (Bool.or_eq_true _ _).mpr (.inr rfl) | refine (Bool.and_eq_true _ _).mpr ⟨?_, ?_⟩)), ?_⟩
  have hat := isAt_iff hr hP
  cases hq : isAt false L (key hash pn made) p with
  | false =>
    simp only [core1, fgr, execOp, opd, ofValue, putT, put, nth, forgetL, Bool.not_false, and_true, true_and, reduceCtorEq]
    exact ⟨.inl (fun w hw he => by rw [hq] at hat; exact absurd (hat.2 ⟨w, hw, he⟩) (by decide)), old3⟩
  | true =>
    simp only [core1, tyr, execOp, opd, putT, put, nth, und, sizeOf, nilCheck, getO, moved, fieldAddr, List.getElem?_cons_succ, List.getElem?_cons_zero, Bool.not_true, Nat.zero_add, Nat.add_zero]
    have hpl : p < L.length := by
      by_cases q : p < L.length
      · exact q
      · unfold isAt at hq; rw [List.getElem?_eq_none (by omega)] at hq; cases hq
    have he : cmpV L[p] (key hash pn made) = 0 := by
      unfold isAt at hq
      rw [List.getElem?_eq_getElem hpl] at hq
      exact of_decide_eq_true hq
    have row3 := sv.row.keep (old3 x sv.xn)
    have lp3 := sv.lp.mono (D' := D) (fun j q => q) (fun j q => old3 j (sv.dn j q))
    have l3 := sv.l.keep (fun j q => old3 j (mn j (ml j q)).1)
    obtain ⟨id, sw, hx, a, d1, d2⟩ := lp3.get hpl
    rw [opv_rd (row3.one (off := 1) rfl ti95 rfl)]
    simp only [core1, execOp, opd, putT, put, nth]
    rw [opv_rd (l3.rds.idx u95 z128 rfl hpl)]
    simp only [core1, execOp, opd, putT, put, nth]
    rw [opv_rd (l3.rds.load ti128 rfl (by rw [Nat.mul_one]; exact hx))]
    simp only [core1, fgr, execOp, opd, putT, put, nth, forgetL, true_and, reduceCtorEq]
    exact ⟨.inr ⟨id, sw, L[p], List.getElem_mem hpl, he, rfl, a, d1, d2⟩, old3⟩
/- An index: New, Put, Drop. -/
theorem rises_eq {o : Bool} {vs : List Ver} (r : Rises o vs) {a b : Ver} (ha : a ∈ vs) (hb : b ∈ vs) (h : cmpO o a b = 0) : a = b := by
  obtain ⟨i, hi, rfl⟩ := List.mem_iff_getElem.1 ha
  obtain ⟨j, hj, rfl⟩ := List.mem_iff_getElem.1 hb
  rcases Nat.lt_trichotomy i j with q | q | q
  · have := r.at_ hi hj q; omega
  · subst q; rfl
  · have := r.at_ hj hi q
    have := (ordO o).anti vs[i] vs[j]
    omega
/-- The place of a version. -/
def pos (o : Bool) (vs : List Ver) (t : Ver) : Nat := vs.countP fun w => decide (cmpO o w t < 0)
theorem Pos.eq {o : Bool} {vs : List Ver} {t : Ver} {p : Nat} (h : Pos o vs t p) : p = pos o vs t := by
  unfold pos
  conv => rhs; rw [← List.take_append_drop p vs]
  rw [List.countP_append]
  have h1 : (vs.take p).countP (fun w => decide (cmpO o w t < 0)) = p := by
    rw [List.countP_eq_length.2 (fun a ha => by
      obtain ⟨k, hk, rfl⟩ := List.mem_iff_getElem.1 ha
      rw [List.length_take] at hk
      rw [List.getElem_take]
      exact decide_eq_true (h.lo k (by omega) (by omega))), List.length_take]
    have := h.le; omega
  have h2 : (vs.drop p).countP (fun w => decide (cmpO o w t < 0)) = 0 := by
    rw [List.countP_eq_zero]
    intro a ha
    obtain ⟨k, hk, rfl⟩ := List.mem_iff_getElem.1 ha
    rw [List.length_drop] at hk
    rw [List.getElem_drop]
    have := h.hi (p + k) (by omega) (by omega)
    simpa using this
  omega
theorem pos_at {o : Bool} {vs : List Ver} {t : Ver} {p : Nat} (r : Rises o vs) (h : Pos o vs t p) (ht : t ∈ vs) : ∃ hp : p < vs.length, vs[p] = t := by
  have ha := (isAt_iff r h).2 ⟨t, ht, (ordO o).refl t⟩
  unfold isAt at ha
  cases e : vs[p]? with
  | none => rw [e] at ha; cases ha
  | some w =>
    rw [e] at ha
    obtain ⟨hp, hw⟩ := List.getElem?_eq_some_iff.1 e
    refine ⟨hp, ?_⟩
    rw [hw]
    exact rises_eq r (List.mem_of_getElem? e) ht (of_decide_eq_true ha)
def putV (L : List Ver) (v : Ver) : List Ver := insL L (pos false L v) v
def dropV (L : List Ver) (v : Ver) : List Ver := delL L (pos false L v)
/-- An index with these versions, by outpoint. -/
structure Ix (h : Hp) (n : Nat) (D M : Nat → Prop) (x : Nat) (L : List Ver) : Prop where
  ex : ∃ S, IxS h n D M x L S ∧ Rises true S ∧ L.Perm S
  r : Rises false L
  ok : ∀ v ∈ L, v.Ok ∧ v.script.length ≤ 1000000
structure Chg (h : Hp) (n : Nat) (D M : Nat → Prop) (h' : Hp) (n' : Nat) (D' M' : Nat → Prop) : Prop extends Ch2 h n M h' n' M' where
  d : ∀ j, D j → D' j
  d' : ∀ j, D' j → D j ∨ n ≤ j
theorem Chg.trans {h h1 h2 : Hp} {n n1 n2 : Nat} {D D1 D2 M M1 M2 : Nat → Prop} (a : Chg h n D M h1 n1 D1 M1) (b : Chg h1 n1 D1 M1 h2 n2 D2 M2) : Chg h n D M h2 n2 D2 M2 :=
  ⟨a.toCh2.trans b.toCh2, fun j hj => b.d j (a.d j hj), fun j hj => (b.d' j hj).elim (a.d' j) (fun q => .inr (Nat.le_trans a.nx q))⟩
theorem Chg.of {h h' : Hp} {n n' : Nat} {D M : Nat → Prop} (hf : Free h' n') (hn : n ≤ n') (ho : Old h h' n) : Chg h n D M h' n' D M := ⟨.of hf hn ho, fun _ h => h, fun _ h => .inl h⟩
theorem Ix.beside {h h' : Hp} {n n' : Nat} {D M : Nat → Prop} {x : Nat} {L : List Ver} (s : Ix h n D M x L) (hn : n ≤ n') (ho : ∀ j, j < n → (D j ∨ M j) → h' j = h j) : Ix h' n' D M x L := by
  obtain ⟨⟨S, a, b, c⟩, r, k⟩ := s
  exact ⟨⟨S, a.beside hn ho, b, c⟩, r, k⟩
theorem Ix.old {h h' : Hp} {n n' : Nat} {D M : Nat → Prop} {x : Nat} {L : List Ver} (s : Ix h n D M x L) (hn : n ≤ n') (ho : Old h h' n) : Ix h' n' D M x L := s.beside hn fun j hj _ => ho j hj
theorem b100 : build env 100 [(0, .bool true)] = M.pure (.agg [.bool true, .nils, .nilf, .nils, .nilf]) := rfl
theorem f40 (h : Hp) (n : Nat) (hf : Free h n) : Wp (callI env (evalW env) 40 []) h n fun v' h' n' => ∃ x, v' = .ptr x 0 ∧ n ≤ x ∧ Ix h' n' (fun _ => False) (fun j => j = x) x [] ∧ Old h h' n := by
  refine wp_callI ff40 fi40 ?_
  simp only [fu40, Try.f40, Option.getD_some, List.replicate, core1, fgr, execOp, opd, ofValue, ops2, putT, put, nth, forgetL, ended, resultOf, oneOrTup, List.nil_append, List.length_nil, Nat.reduceSub, wp_pure, b100]
  refine opv_box (v := .agg [.bool true, .nils, .nilf, .nils, .nilf]) ti100 rfl hf fun h1 r1 o1 f1 => ?_
  obtain ⟨e, he⟩ := r1
  simp only [core1, tyr, fgr, execOp, opd, putT, put, nth, forgetL, und, sizeOf, nilCheck, getO, moved, fieldAddr, List.getElem?_cons_succ, List.getElem?_cons_zero, Nat.reduceAdd, Nat.zero_add]
  rw [opv_wr (Row.write (v := .fn (.func 84) [] []) he ti96 rfl (by decide) rfl)]
  simp only [core1, tyr, execOp, opd, putT, put, nth, und, sizeOf, cel, nilCheck, getO, moved, fieldAddr, List.getElem?_cons_succ, List.getElem?_cons_zero, Nat.reduceAdd, Nat.zero_add]
  rw [opv_wr (Row.write (v := .fn (.func 85) [] []) (upd_same _ _ _) ti96 rfl (by decide) rfl)]
  simp only [core1, fgr, execOp, opd, putT, put, nth, forgetL, cel, true_and]
  refine ⟨n, rfl, Nat.le_refl _, ⟨⟨[], ⟨.nils, .nils, [], [], ⟨?_, .nil, ⟨rfl, fun j x v hx => by simp at hx⟩, .nil, ⟨rfl, fun j x v hx => by simp at hx⟩, by omega, fun j q => q.elim, fun q => q, fun j q => (by cases q), fun j q => (by cases q)⟩, rfl, fun j q => (by cases q), fun j q => (by cases q), fun j q => ⟨by omega, fun w => w⟩⟩, .nil, .nil⟩, .nil, fun v hv => (by cases hv)⟩, fun j hj => ?_⟩
  · exact Row.new _ _ _ _
  · rw [upd_ne _ _ (by omega), upd_ne _ _ (by omega), o1 j (by omega)]
theorem f34 (x : Nat) (hash : List UInt8) (pn made : Int) (hl : hash.length = 32) (L : List Ver) (D M : Nat → Prop) (h : Hp) (n : Nat) (hs : Ix h n D M x L) (hc : L.length ≤ 1000000) (hf : Free h n) :
    Wp (callI env (evalW env) 34 [.ptr x 0, .agg (pcells hash pn), .int .i64 made]) h n fun v' h' n' => ((∀ w ∈ L, cmpV w (key hash pn made) ≠ 0) ∧ v' = .int .i64 210 ∧ Ix h' n' D M x L ∨ ∃ w, w ∈ L ∧ cmpV w (key hash pn made) = 0 ∧ v' = .int .i64 0 ∧ Ix h' n' D M x (dropV L w)) ∧ Chg h n D M h' n' D M := by
  obtain ⟨⟨S, s, rS, perm⟩, rL, ok⟩ := hs
  have s0 := s
  obtain ⟨vl, vs, xl, xs, sv, mx, ml, ms, mn⟩ := s0
  refine wp_callI ff34 fi34 ?_
  simp only [fu34, Try.f34, Option.getD_some, List.replicate, core1, execOp, opd, nth, ended, resultOf, oneOrTup, List.cons_append, List.nil_append, List.length_cons, List.length_nil, Nat.reduceAdd, Nat.reduceSub, Nat.zero_add, wp_pure]
  refine opv_box (v := .agg (pcells hash pn)) ti28 rfl hf fun H1 r1 o1 f1 => ?_
  have old1 : Old h H1 n := fun j hj => o1 j (by omega)
  simp only [core1, fgr, hkr, execOp, opd, opds, ofValue, putT, put, nth, forgetL, doCall, callV_func, List.nil_append, List.append_nil]
  refine opv_same (f73 x _ true H1 (n + 1) (sv.row.keep (old1 x sv.xn)) rfl) ?_
  simp only [core1, fgr, execOp, opd, putT, put, nth, forgetL, Bool.not_true]
  have hld : Rd (load env 28 (.ptr n 0)) H1 (n + 1) [n] (.agg (pcells hash pn)) := Row.whole r1 ti28 rfl (pcells_len hl)
  rw [opv_rd hld]
  simp only [core1, hkr, execOp, opd, opds, putT, put, nth, doCall, callV_func, List.nil_append, List.append_nil]
  have s1 := s.old (n' := n + 1) (by omega) old1
  refine opv_callf f1 (f76 x hash pn made hl L S D M H1 (n + 1) s1 rL hc f1) fun v2 h2 n2 hn2 f2 ⟨hh, o2⟩ => ?_
  have old2 : Old h h2 n := fun j hj => by rw [o2 j (by omega), old1 j hj]
  have s2 := s1.old hn2 o2
  rcases hh with ⟨hno, e2⟩ | ⟨id, sw, w, hw, hkey, e2, a, d1, d2⟩
  · subst e2
    simp only [core1, tyr, fgr, execOp, opd, ofValue, putT, put, nth, forgetL, und, bor, binOther, strK, aggK, equalTop, equal, nilFn, nilPtr, boolOf, Bool.and_true, Bool.or_true, true_and]
    exact ⟨.inl ⟨hno, ⟨⟨S, s2, rS, perm⟩, rL, ok⟩⟩, .of f2 (by omega) old2⟩
  subst e2
  simp only [core1, tyr, fgr, hkr, execOp, opd, opds, ofValue, putT, put, nth, forgetL, doCall, callV_func, und, sizeOf, bor, binOther, strK, aggK, nilCheck, getO, moved, fieldAddr, equalTop, equal, nilFn, nilPtr, boolOf, List.getElem?_cons_succ, List.getElem?_cons_zero, List.nil_append, List.append_nil, Bool.and_true, Bool.or_true, Nat.zero_add]
  have at2 : AtN h2 n2 id sw w := ⟨a, by have := sv.dn id d1; omega, fun j q => by have := sv.dn j (d2 j q); omega⟩
  refine opv_callf f2 (dropL x id sw w L S D M h2 n2 s2 at2 rL ⟨w, hw, ordV.refl w⟩ hc f2) fun v3 h3 n3 hn3 f3 ⟨e3, p, hp, hpl, s3, c3⟩ => ?_
  subst e3
  simp only [core1, tyr, fgr, hkr, execOp, opd, opds, putT, put, nth, forgetL, doCall, callV_func, und, sizeOf, nilCheck, getO, moved, fieldAddr, List.getElem?_cons_succ, List.getElem?_cons_zero, List.nil_append, List.append_nil, Nat.zero_add]
  have hwm : ∀ j, D j → ¬ M j := fun j q w => (mn j w).2 q
  have at3 : AtN h3 n3 id sw w := ⟨a.keep (c3.old id at2.idn (hwm id d1)) (fun j q => c3.old j (at2.sn j q) (hwm j (d2 j q))), by have := at2.idn; omega, fun j q => by have := at2.sn j q; omega⟩
  have hwS : w ∈ S := perm.mem_iff.1 hw
  refine opv_callf f3 (dropS x id sw w _ S D M h3 n3 s3 at3 rS ⟨w, hwS, ordS.refl w⟩ (by rw [← perm.length_eq]; exact hc) f3) fun v4 h4 n4 hn4 f4 ⟨e4, q, hq, hql, s4, c4⟩ => ?_
  subst e4
  simp only [core1, fgr, execOp, opd, ofValue, putT, put, nth, forgetL, true_and]
  obtain ⟨hp1, hp2⟩ := pos_at rL hp hw
  obtain ⟨hq1, hq2⟩ := pos_at rS hq hwS
  have perm2 : (delL L p).Perm (delL S q) := by
    have e1 := delL_perm hp1
    have e2 := delL_perm hq1
    rw [hp2] at e1
    rw [hq2] at e2
    exact (List.perm_cons w).1 (e1.symm.trans (perm.trans e2))
  have e : delL L p = dropV L w := by unfold dropV; rw [← hp.eq]
  have ok2 : ∀ v ∈ delL L p, v.Ok ∧ v.script.length ≤ 1000000 := fun v hv => ok v ((delL_perm hp1).mem_iff.2 (List.mem_cons_of_mem _ hv))
  rw [e] at s4 perm2 ok2
  exact ⟨.inr ⟨w, hw, hkey, ⟨⟨_, s4, del_rises rS q, perm2⟩, by rw [← e]; exact del_rises rL p, ok2⟩⟩, ⟨((Ch2.of f2 (by omega) old2).trans c3).trans c4, fun j q => q, fun j q => .inl q⟩⟩
/- An index: Put. -/
theorem cmpS_0 {a b : Ver} (h : cmpS a b = 0) : cmpV a b = 0 := by
  unfold cmpS orI at h
  split at h
  · exact h
  · contradiction
/-- What may not be put, whatever there is. -/
def errV (v : Ver) : Bool := decide (v.made < 0) || (decide (v.spent ≠ 0) && (decide (v.spent < v.made) || decide (v.spent < 0)))
def errP (v : Ver) (L : List Ver) : Prop := errV v = true ∨ ∃ w ∈ L, cmpV w v = 0
/-- One that is not there is put into both lists. -/
theorem put_ix {h : Hp} {n : Nat} {D M : Nat → Prop} {x : Nat} {tv : Ver} {L S : List Ver} {p q : Nat} (hp : Pos false L tv p) (hq : Pos true S tv q) (rL : Rises false L) (rS : Rises true S) (perm : L.Perm S) (ok : ∀ v ∈ L, v.Ok ∧ v.script.length ≤ 1000000) (okt : tv.Ok ∧ tv.script.length ≤ 1000000)
    (hno : ∀ w ∈ L, cmpV w tv ≠ 0) (hs : IxS h n D M x (insL L p tv) (insL S q tv)) : Ix h n D M x (putV L tv) := by
  have e : insL L p tv = putV L tv := by unfold putV; rw [← hp.eq]
  have rL2 := ins_rises rL hp hno
  have rS2 := ins_rises rS hq (fun w hw he => hno w (perm.mem_iff.2 hw) (cmpS_0 he))
  have pm : (insL L p tv).Perm (insL S q tv) := (insL_perm L p tv).trans ((List.Perm.cons tv perm).trans (insL_perm S q tv).symm)
  have ok2 : ∀ v ∈ insL L p tv, v.Ok ∧ v.script.length ≤ 1000000 := fun v hv => by
    rcases insL_mem.1 hv with rfl | hv
    · exact okt
    · exact ok v hv
  rw [e] at hs rL2 pm ok2
  exact ⟨⟨_, hs, rS2, pm⟩, rL2, ok2⟩
end Go.Am.Ytlgebaofkolkoaa
