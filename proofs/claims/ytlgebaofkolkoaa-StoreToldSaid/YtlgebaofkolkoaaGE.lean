/- What the statement reaches, gone through; and the abstract machine that goes through it. -/
import Derived.Test.YtlgebaofkolkoaaGD
set_option linter.unusedSimpArgs false
set_option linter.unusedVariables false
set_option linter.defProp false
set_option maxRecDepth 10000
namespace Go.Am.Ytlgebaofkolkoaa
open Go Go.Am Go.Proofs
def kM (a b : Int) : Int := if a < b then -1 else if b < a then 1 else 0
def orI (a b : Int) : Int := if a = 0 then b else a
theorem f122 (h : Hp) (n : Nat) (x : Int) : Wp (bD env (evalW env) 122 [.int .i64 x]) h n fun v' h' n' => v' = .bool false ∧ h' = h ∧ n' = n := by
  refine bL aa1 YZ ?_
  simp only [KQ, Try.f122, Option.getD_some, List.replicate, aC, fgr, execOp, opd, ofValue, aD, put, nth, aB, bor, aJ, aK, intOp, ended, aT, aU, Nat.reduceSub, bne_self_eq_false, gL, gB, gI]
def ac6 (h : Hp) (n : Nat) (x : Int) := uP (f122 h n x)
theorem f124 (h : Hp) (n : Nat) (x : Int) : Wp (bD env (evalW env) 124 [.int .u32 x]) h n fun v' h' n' => v' = .bool false ∧ h' = h ∧ n' = n := by
  refine bL aa0 YY ?_
  simp only [KP, Try.f124, Option.getD_some, List.replicate, aC, fgr, execOp, opd, ofValue, aD, put, nth, aB, bor, aJ, aK, intOp, ended, aT, aU, Nat.reduceSub, bne_self_eq_false, gL, gB, gI]
def ac5 (h : Hp) (n : Nat) (x : Int) := uP (f124 h n x)
theorem f118 (h : Hp) (n : Nat) (x y : Int) : Wp (bD env (evalW env) 118 [.int .i64 x, .int .i64 y]) h n fun v' h' n' => v' = .int .i64 (kM x y) ∧ h' = h ∧ n' = n := by
  refine bL aa3 Z1 ?_
  by_cases h1 : x < y
  · simp only [FD, Try.f118, Option.getD_some, List.replicate, aC, fgr, hkr, execOp, opd, bG, ofValue, aD, put, nth, aB, aL, aE, bor, aJ, aK, intOp, ended, aT, aU, Nat.reduceAdd, Nat.reduceSub, ↓reduceIte, Int.reduceNeg, ac6, kM, h1, gL, gB, gI]
  · by_cases h2 : y < x <;> simp only [FD, Try.f118, Option.getD_some, List.replicate, aC, fgr, hkr, execOp, opd, bG, ofValue, aD, put, nth, aB, aL, aE, bor, aJ, aK, intOp, ended, aT, aU, Nat.reduceAdd, Nat.reduceSub, ↓reduceIte, Int.reduceNeg, gt_iff_lt, ac6, kM, h1, h2, gL, gB, gI]
theorem f121 (h : Hp) (n : Nat) (x y : Int) : Wp (bD env (evalW env) 121 [.int .u32 x, .int .u32 y]) h n fun v' h' n' => v' = .int .i64 (kM x y) ∧ h' = h ∧ n' = n := by
  refine bL aa2 Z0 ?_
  by_cases h1 : x < y
  · simp only [FC, Try.f121, Option.getD_some, List.replicate, aC, fgr, hkr, execOp, opd, bG, ofValue, aD, put, nth, aB, aL, aE, bor, aJ, aK, intOp, ended, aT, aU, Nat.reduceAdd, Nat.reduceSub, ↓reduceIte, Int.reduceNeg, ac5, kM, h1, gL, gB, gI]
  · by_cases h2 : y < x <;> simp only [FC, Try.f121, Option.getD_some, List.replicate, aC, fgr, hkr, execOp, opd, bG, ofValue, aD, put, nth, aB, aL, aE, bor, aJ, aK, intOp, ended, aT, aU, Nat.reduceAdd, Nat.reduceSub, ↓reduceIte, Int.reduceNeg, gt_iff_lt, ac5, kM, h1, h2, gL, gB, gI]
theorem WR : und env 147 = M.pure (.slice 3) := rfl
theorem z3 : sizeOf env 3 = M.pure 1 := rfl
theorem f63 (id : Nat) (a b : Int) (e : TypeId) (h : Hp) (n : Nat) (hr : h id = some (.row (.l [.int .i64 a, .int .i64 b]) e)) : Wp (bD env (evalW env) 63 [.sl id 0 2 (some 2) 1]) h n fun v' h' n' => v' = .int .i64 (orI a b) ∧ h' = h ∧ n' = n := by
  refine bL ff63 fi63 ?_
  have hs : Rds h 1 (.sl id 0 2 (some 2) 1) 2 [.int .i64 a, .int .i64 b] := nE hr rfl
  have i0 := hs.idx (E := env) WR z3 (kk := .i64) (z := 0) (j := 0) rfl (by omega) (h' := h) (n' := n)
  have i1 := hs.idx (E := env) WR z3 (kk := .i64) (z := 1) (j := 1) rfl (by omega) (h' := h) (n' := n)
  have l0 := hs.load (E := env) ti3 rfl (k := 0 * 1) (n := n) rfl
  have l1 := hs.load (E := env) ti3 rfl (k := 1 * 1) (n := n) rfl
  have w1 : IntKind.i64.wrap 1 = 1 := by decide
  have w2 : IntKind.i64.wrap 2 = 2 := by decide
  by_cases ha : a = 0
  · subst ha
    by_cases hb : b = 0
    · subst hb
      simp only [KO, Try.f63, Option.getD_some, List.replicate, aC, fgr, execOp, opd, bG, ofValue, aD, put, nth, aB, aL, builtin, dH, blr, bor, aJ, aK, intOp, bU, ended, aT, aU, Nat.reduceSub, Int.cast_ofNat_Int, ↓reduceIte, Int.reduceLT, Int.reduceAdd, bne_self_eq_false, cF, aM i0, aM i1, aM l0, aM l1, orI, w1, w2, gL, gB, gI]
    · simp only [KO, Try.f63, Option.getD_some, List.replicate, aC, fgr, execOp, opd, bG, ofValue, aD, put, nth, aB, aL, builtin, dH, blr, bor, aJ, aK, intOp, bU, ended, aT, aU, Nat.reduceSub, Int.cast_ofNat_Int, ↓reduceIte, Int.reduceLT, Int.reduceAdd, bne_self_eq_false, cF, aM i0, aM i1, aM l0, aM l1, orI, w1, hb, gL, gB, gI]
  · simp only [KO, Try.f63, Option.getD_some, List.replicate, aC, fgr, execOp, opd, bG, ofValue, aD, put, nth, aB, aL, builtin, dH, blr, bor, aJ, aK, intOp, ended, aT, aU, Nat.reduceSub, Int.cast_ofNat_Int, ↓reduceIte, Int.reduceLT, cF, aM i0, aM l0, orI, ha, gL, gB, gI]
structure Ver where
  hash : List UInt8
  pn : Int
  made : Int
  value : Int
  aR : List UInt8
  base : Bool
  bZ : Int
  by_ : List UInt8
def aY (hash : List UInt8) (pn : Int) : List a9 := hash.map u8 ++ [.int .u32 pn]
def mL (v : Ver) (sv : a9) : List a9 := [.int .i64 v.made, .int .i64 v.value, sv, .bool v.base, .int .i64 v.bZ] ++ v.by_.map u8
def aO (v : Ver) (sv : a9) : List a9 := aY v.hash v.pn ++ mL v sv
theorem cA {hash : List UInt8} {pn : Int} (h : hash.length = 32) : (aY hash pn).length = 33 := by simp [aY, h]
theorem iC {hash : List UInt8} {pn : Int} (h : hash.length = 32) : (aY hash pn)[32]? = some (.int .u32 pn) := by
  unfold aY
  rw [List.getElem?_append_right (by rw [List.length_map]; omega), List.length_map, h]; rfl
theorem qQ (hash : List UInt8) (pn : Int) : (aY hash pn).all bN = true := by
  unfold aY
  rw [List.all_append, sV]; rfl
theorem bM {v : Ver} {sv : a9} (h : v.hash.length = 32) (h2 : v.by_.length = 32) : (aO v sv).length = 70 := by
  unfold aO
  rw [List.length_append, cA h]
  simp [mL, h2]
theorem uY {v : Ver} {sv : a9} (h : v.hash.length = 32) : (aO v sv).take 33 = aY v.hash v.pn := by
  unfold aO
  rw [List.take_append_of_le_length (by rw [cA h]; omega), List.take_of_length_le (by rw [cA h]; omega)]
theorem jE {v : Ver} {sv : a9} (h : v.hash.length = 32) (k : Nat) : (aO v sv)[33 + k]? = (mL v sv)[k]? := by
  unfold aO
  rw [List.getElem?_append_right (by rw [cA h]; omega), cA h]
  congr 1; omega
def nT (h1 : List UInt8) (n1 : Int) (h2 : List UInt8) (n2 : Int) : Int := orI (Lib.compareBytes h1 h2) (kM n1 n2)
def fM (v w : Ver) : Int := orI (nT v.hash v.pn w.hash w.pn) (kM v.made w.made)
def E3 (v w : Ver) : Int := orI (Lib.compareBytes v.aR w.aR) (fM v w)
theorem u25 : und env 25 = M.pure (.array 32 5) := rfl
theorem z5 : sizeOf env 5 = M.pure 1 := rfl
theorem MS {id : Nat} {h' : Hp} {n' : Nat} : Rd (slice env 25 (.ptr id 0) none none none) h' n' [] (.sl id 0 32 (some 32) 1) := by
  simp only [slice, u25, z5, bind_pure, bound, Nat.zero_mul, Nat.add_zero, Nat.sub_zero]
  exact Rd.pure _
theorem vW {h : Hp} {id : Nat} {xs : List a9} {l : List UInt8} (hr : Row h id xs) (hl : l.length = 32) (ht : xs.take 32 = l.map u8) (hx : 32 ≤ xs.length) : Bytes h (.sl id 0 32 (some 32) 1) l := by
  obtain ⟨e, he⟩ := hr
  have := Bytes.sl (h := h) id 0 (some 32) (.l xs) e l he (by show 0 + l.length ≤ xs.length; omega) (fun j hj => by
    have hj2 : j < xs.length := by omega
    rw [Nat.zero_add, bQ.tM hj2]
    have h1 : (xs.take 32)[j]? = (l.map u8)[j]? := by rw [ht]
    rw [List.getElem?_take, if_pos (by omega), List.getElem?_eq_getElem hj2, List.getElem?_map, List.getElem?_eq_getElem hj] at h1
    injection h1)
  rwa [hl] at this
theorem f117 (h1 h2 : List UInt8) (n1 n2 : Int) (l1 : h1.length = 32) (l2 : h2.length = 32) (h : Hp) (n : Nat) (hf : bO h n) :
    Wp (bD env (evalW env) 117 [.agg (aY h1 n1), .agg (aY h2 n2)]) h n fun v' h' n' => v' = .int .i64 (nT h1 n1 h2 n2) ∧ Old h h' n := by
  refine bL aa4 Z2 ?_
  simp only [KR, Try.f117, Option.getD_some, List.replicate, aC, execOp, opd, nth, ended, aT, aU, Nat.reduceAdd, Nat.reduceSub, gL, gI]
  refine dA (v := .agg (aY h1 n1)) iK rfl hf fun H1 r1 o1 f1 => ?_
  simp only [aC, execOp, opd, aD, put, nth]
  refine dA (v := .agg (aY h2 n2)) iK rfl f1 fun H2 r2 o2 f2 => ?_
  simp only [aC, fgr, execOp, opd, ofValue, aD, put, aB]
  have r1' : Row H2 n (aY h1 n1) := r1.aX (o2 n (by omega))
  have r2' : Row H2 (n + 1) (aY h2 n2) := r2
  have b1 := vW r1' l1 (by unfold aY; rw [List.take_append_of_le_length (by simp [l1]), List.take_of_length_le (by simp [l1])]) (by rw [cA l1]; omega)
  have b2 := vW r2' l2 (by unfold aY; rw [List.take_append_of_le_length (by simp [l2]), List.take_of_length_le (by simp [l2])]) (by rw [cA l2]; omega)
  refine cG ⟨rfl, ?_⟩
  simp only [aF, aI, aC, tyr, execOp, opd, opt, aD, put, nth, und, sizeOf, aZ, aS, fieldAddr, gL, gI]
  rw [bP MS]
  simp only [aF, aI, aC, tyr, execOp, opd, opt, aD, put, nth, und, sizeOf, aZ, aS, fieldAddr, Nat.reduceAdd, gL, gI]
  rw [bP MS]
  simp only [aF, hkr, execOp, opd, bG, aD, put, nth, aL, aE, Nat.reduceAdd, gL]
  rw [bP (wK b1 b2)]
  simp only [aF, aI, aC, tyr, execOp, opd, aD, put, nth, und, sizeOf, aZ, aS, fieldAddr, Nat.reduceAdd, gL, gI]
  rw [bP (r1'.one (iC l1) oD rfl)]
  simp only [aF, aI, aC, tyr, execOp, opd, aD, put, nth, und, sizeOf, aZ, aS, fieldAddr, Nat.reduceAdd, gL, gI]
  rw [bP (r2'.one (iC l2) oD rfl)]
  simp only [aF, hkr, execOp, opd, bG, aD, put, nth, aL, aE, Nat.reduceAdd, gL]
  refine oU f2 (f121 (fun _ => none) _ n1 n2) (f121 H2 _ n1 n2) fun v3 h3 n3 hn3 f3 ⟨e1, e2, e3⟩ => ?_
  subst e1; subst e2; subst e3
  simp only [aF, aC, tyr, execOp, opd, dE, aD, put, nth, und, cel, aZ, Nat.reduceAdd, Nat.beq, buildSlice, fQ, fill, List.take_succ_cons, List.take_zero, List.drop_succ_cons, List.drop_zero, Nat.ble, Nat.one_mul, gL, gB, gI]
  refine jI ti3 f3 fun H4 r4 o4 f4 => ?_
  simp only [aF, hkr, execOp, opd, bG, aD, put, nth, aL, aE, Nat.reduceAdd, gL]
  refine eF f4 (f63 _ _ _ _ _ _ r4) fun v5 h5 n5 r5 w5 hn5 f5 ⟨e1, e2, e3⟩ => ?_
  subst e1; subst e2; subst e3
  simp only [bY, aF, aI, aC, fgr, execOp, opd, aD, put, nth, aB, Nat.reduceAdd, gB]
  refine ⟨(by (try simp (disch := first | assumption | omega) only [dF, List.all_cons, List.all_nil, gB, gF]); repeat' (first | rfl | exact (Bool.or_eq_true _ _).mpr (.inr rfl) | refine (Bool.and_eq_true _ _).mpr ⟨?_, ?_⟩)), ?_⟩
  exact ⟨rfl, fun j hj => by rw [o4 j (by omega), o2 j (by omega), o1 j (by omega)]⟩
structure Ver.Ok (v : Ver) : Prop where
  h : v.hash.length = 32
  b : v.by_.length = 32
theorem gX {h : Hp} {n id : Nat} {v : Ver} {sv : a9} (hr : Row h id (aO v sv)) (ho : v.Ok) : Rd (load env 28 (.ptr id 0)) h n [id] (.agg (aY v.hash v.pn)) := by
  have := hr.agg (E := env) (n := n) (off := 0) iK rfl (by rw [bM ho.h ho.b]; decide)
  rw [List.drop_zero] at this
  have e : (aO v sv).take 33 = aY v.hash v.pn := uY ho.h
  exact e ▸ this
theorem eN {h : Hp} {n id : Nat} {v : Ver} {sv : a9} (hr : Row h id (aO v sv)) (ho : v.Ok) : Rd (load env 31 (.ptr id 0)) h n [id] (.agg (aO v sv)) := hr.whole dY rfl (bM ho.h ho.b)
theorem eS {h : Hp} {n id : Nat} {v : Ver} {sv : a9} (hr : Row h id (aO v sv)) (ho : v.Ok) : Rd (load env 3 (.ptr id 33)) h n [id] (.int .i64 v.made) := hr.one (jE ho.h 0) ti3 rfl
theorem kX {h : Hp} {n id : Nat} {v : Ver} {sv : a9} (hr : Row h id (aO v sv)) (ho : v.Ok) : Rd (load env 2 (.ptr id 34)) h n [id] (.int .i64 v.value) := hr.one (jE ho.h 1) ti2 rfl
theorem iO {h : Hp} {n id : Nat} {v : Ver} {sv : a9} (hr : Row h id (aO v sv)) (ho : v.Ok) : Rd (load env 29 (.ptr id 35)) h n [id] sv := hr.one (jE ho.h 2) uC rfl
theorem B0 {h : Hp} {n id : Nat} {v : Ver} {sv : a9} (hr : Row h id (aO v sv)) (ho : v.Ok) : Rd (load env 4 (.ptr id 36)) h n [id] (.bool v.base) := hr.one (jE ho.h 3) ti4 rfl
theorem dD {h : Hp} {n id : Nat} {v : Ver} {sv : a9} (hr : Row h id (aO v sv)) (ho : v.Ok) : Rd (load env 3 (.ptr id 37)) h n [id] (.int .i64 v.bZ) := hr.one (jE ho.h 4) ti3 rfl
theorem D3 {h : Hp} {n id : Nat} {v : Ver} {sv : a9} (hr : Row h id (aO v sv)) (ho : v.Ok) : Rd (load env 25 (.ptr id 38)) h n [id] (.agg (v.by_.map u8)) := by
  have := hr.agg (E := env) (n := n) (off := 38) mM rfl (by rw [bM ho.h ho.b]; decide)
  have e : ((aO v sv).drop 38).take 32 = v.by_.map u8 := by
    unfold aO
    rw [List.drop_append, List.drop_eq_nil_of_le (by rw [cA ho.h]; omega), cA ho.h]
    show (([] : List a9) ++ v.by_.map u8).take 32 = _
    rw [List.nil_append, List.take_of_length_le (by simp [ho.b])]
  exact e ▸ this
theorem f107 (v w : Ver) (sv sw : a9) (ov : v.Ok) (ow : w.Ok) (h : Hp) (n : Nat) (hf : bO h n) :
    Wp (bD env (evalW env) 107 [.agg (aO v sv), .agg (aO w sw)]) h n fun v' h' n' => v' = .int .i64 (fM v w) ∧ Old h h' n := by
  refine bL ab0 Z8 ?_
  simp only [KX, Try.f107, Option.getD_some, List.replicate, aC, execOp, opd, nth, ended, aT, aU, Nat.reduceAdd, Nat.reduceSub, gL, gI]
  refine dA (v := .agg (aO v sv)) dY rfl hf fun H1 r1 o1 f1 => ?_
  simp only [aC, execOp, opd, aD, put, nth]
  refine dA (v := .agg (aO w sw)) dY rfl f1 fun H2 r2 o2 f2 => ?_
  simp only [aC, fgr, execOp, opd, ofValue, aD, put, aB]
  have r1' : Row H2 n (aO v sv) := r1.aX (o2 n (by omega))
  have r2' : Row H2 (n + 1) (aO w sw) := r2
  refine cG ⟨rfl, ?_⟩
  simp only [aF, aI, aC, tyr, execOp, opd, aD, put, nth, und, sizeOf, aZ, aS, fieldAddr, gL, gI]
  rw [bP (gX r1' ov)]
  simp only [aF, aI, aC, tyr, execOp, opd, aD, put, nth, und, sizeOf, aZ, aS, fieldAddr, Nat.reduceAdd, gL, gI]
  rw [bP (gX r2' ow)]
  simp only [aF, hkr, execOp, opd, bG, aD, put, nth, aL, aE, Nat.reduceAdd, gL]
  refine oU f2 (f117 v.hash w.hash v.pn w.pn ov.h ow.h (fun _ => none) _ (fun _ _ => rfl)) (f117 v.hash w.hash v.pn w.pn ov.h ow.h H2 _ f2) fun v3 h3 n3 hn3 f3 ⟨e3, o3⟩ => ?_
  subst e3
  simp only [aF, aI, aC, tyr, execOp, opd, aD, put, nth, und, sizeOf, aZ, aS, fieldAddr, Nat.reduceAdd, gL, gI]
  have r1' := r1'.aX (o3 n (by omega))
  have r2' := r2'.aX (o3 (n + 1) (by omega))
  rw [bP (eS r1' ov)]
  simp only [aF, aI, aC, tyr, execOp, opd, aD, put, nth, und, sizeOf, aZ, aS, fieldAddr, Nat.reduceAdd, gL, gI]
  rw [bP (eS r2' ow)]
  simp only [aF, hkr, execOp, opd, bG, aD, put, nth, aL, aE, Nat.reduceAdd, gL]
  refine oU f3 (f118 (fun _ => none) _ v.made w.made) (f118 h3 _ v.made w.made) fun v3 h3 n3 hn3 f3 ⟨e1, e2, e3⟩ => ?_
  subst e1; subst e2; subst e3
  simp only [aF, aC, tyr, execOp, opd, dE, aD, put, nth, und, cel, aZ, Nat.reduceAdd, Nat.beq, buildSlice, fQ, fill, List.take_succ_cons, List.take_zero, List.drop_succ_cons, List.drop_zero, Nat.ble, Nat.one_mul, gL, gB, gI]
  refine jI ti3 f3 fun H4 r4 o4 f4 => ?_
  simp only [aF, hkr, execOp, opd, bG, aD, put, nth, aL, aE, Nat.reduceAdd, gL]
  refine eF f4 (f63 _ _ _ _ _ _ r4) fun v5 h5 n5 r5 w5 hn5 f5 ⟨e1, e2, e3⟩ => ?_
  subst e1; subst e2; subst e3
  simp only [bY, aF, aI, aC, fgr, execOp, opd, aD, put, nth, aB, Nat.reduceAdd, gB]
  refine ⟨(by (try simp (disch := first | assumption | omega) only [dF, List.all_cons, List.all_nil, gB, gF]); repeat' (first | rfl | exact (Bool.or_eq_true _ _).mpr (.inr rfl) | refine (Bool.and_eq_true _ _).mpr ⟨?_, ?_⟩)), ?_⟩
  exact ⟨rfl, fun j hj => by rw [o4 j (by omega), o3 j (by omega), o2 j (by omega), o1 j (by omega)]⟩
theorem t29 : und env 29 = M.pure (.slice 5) := rfl
theorem t9 : und env 9 = M.pure .string := rfl
theorem t5 : und env 5 = M.pure (.int .u8) := rfl
theorem s5 : sizeOf env 5 = M.pure 1 := rfl
structure At (h : Hp) (id : Nat) (sv : a9) (v : Ver) : Prop where
  row : Row h id (aO v sv)
  s : Bytes h sv v.aR
  ok : v.Ok
theorem At.aX {h h' : Hp} {id : Nat} {sv : a9} {v : Ver} (a : At h id sv v) (hi : h' id = h id) (hs : ∀ j, bB sv = some j → h' j = h j) : At h' id sv v := ⟨a.row.aX hi, a.s.aX hs, a.ok⟩
structure AtN (h : Hp) (n : Nat) (id : Nat) (sv : a9) (v : Ver) : Prop extends At h id sv v where
  idn : id < n
  sn : ∀ j, bB sv = some j → j < n
theorem AtN.old {h h' : Hp} {n n' : Nat} {id : Nat} {sv : a9} {v : Ver} (a : AtN h n id sv v) (hn : n ≤ n') (ho : Old h h' n) : AtN h' n' id sv v :=
  ⟨a.toAt.aX (ho id a.idn) (fun j hj => ho j (a.sn j hj)), by have := a.idn; omega, fun j hj => by have := a.sn j hj; omega⟩
theorem f84 (a b : Nat) (sa sb : a9) (v w : Ver) (h : Hp) (n : Nat) (ha : AtN h n a sa v) (hb : AtN h n b sb w) (hf : bO h n) :
    Wp (bD env (evalW env) 84 [.ptr a 0, .ptr b 0]) h n fun v' h' n' => v' = .int .i64 (fM v w) ∧ Old h h' n := by
  refine bL ff84 fi84 ?_
  simp only [UF, Try.f84, Option.getD_some, List.replicate, aC, fgr, execOp, opd, ofValue, aD, put, aB, ended, aT, aU, Nat.reduceAdd, Nat.reduceSub, gL, gI]
  refine cG ⟨rfl, ?_⟩
  simp only [aF, aI, execOp, opd, aD, put, nth, nilCheck, Nat.reduceAdd, gI]
  rw [bP (eN ha.row ha.ok)]
  simp only [aF, aI, execOp, opd, aD, put, nth, nilCheck, Nat.reduceAdd]
  rw [bP (eN hb.row hb.ok)]
  simp only [aF, hkr, execOp, opd, bG, aD, put, nth, aL, aE, Nat.reduceAdd, gL]
  refine eF hf (f107 v w sa sb ha.ok hb.ok h n hf) fun v5 h5 n5 r5 w5 hn5 f5 ⟨e1, o1⟩ => ?_
  subst e1
  simp only [bY, aF, aI, aC, fgr, execOp, opd, aD, put, nth, aB, Nat.reduceAdd, gB]
  refine ⟨(by (try simp (disch := first | assumption | omega) only [dF, List.all_cons, List.all_nil, gB, gF]); repeat' (first | rfl | exact (Bool.or_eq_true _ _).mpr (.inr rfl) | refine (Bool.and_eq_true _ _).mpr ⟨?_, ?_⟩)), ?_⟩
  exact o1
theorem f85 (a b : Nat) (sa sb : a9) (v w : Ver) (h : Hp) (n : Nat) (ha : AtN h n a sa v) (hb : AtN h n b sb w) (hf : bO h n) :
    Wp (bD env (evalW env) 85 [.ptr a 0, .ptr b 0]) h n fun v' h' n' => v' = .int .i64 (E3 v w) ∧ Old h h' n := by
  refine bL ff85 fi85 ?_
  simp only [UE, Try.f85, Option.getD_some, List.replicate, aC, fgr, execOp, opd, ofValue, aD, put, aB, ended, aT, aU, Nat.reduceAdd, Nat.reduceSub, gL, gI]
  refine cG ⟨rfl, ?_⟩
  simp only [aF, aI, aC, tyr, execOp, opd, aD, put, nth, und, sizeOf, nilCheck, aZ, aS, fieldAddr, Nat.reduceAdd, gL, gI]
  rw [bP (iO ha.row ha.ok)]
  simp only [aF, aI, aC, tyr, execOp, opd, aD, put, nth, und, sizeOf, nilCheck, aZ, aS, fieldAddr, Nat.reduceAdd, gL, gI]
  rw [bP (iO hb.row hb.ok)]
  simp only [aF, hkr, execOp, opd, bG, aD, put, nth, aL, aE, Nat.reduceAdd, gL]
  rw [bP (wK ha.s hb.s)]
  simp only [aF, aI, hkr, execOp, opd, bG, aD, put, nth, aL, aE, Nat.reduceAdd, gL]
  refine eF hf (f84 a b sa sb v w h n ha hb hf) fun v5 h5 n5 r5 w5 hn5 f5 ⟨e1, o1⟩ => ?_
  subst e1
  simp only [aF, aC, tyr, execOp, opd, dE, aD, put, nth, und, cel, aZ, Nat.reduceAdd, Nat.beq, buildSlice, fQ, fill, List.take_succ_cons, List.take_zero, List.drop_succ_cons, List.drop_zero, Nat.ble, Nat.one_mul, gL, gB, gI]
  refine jI ti3 f5 fun H4 r4 o4 f4 => ?_
  simp only [aF, hkr, execOp, opd, bG, aD, put, nth, aL, aE, Nat.reduceAdd, gL]
  refine eF f4 (f63 _ _ _ _ _ _ r4) fun v6 h6 n6 r6 w6 hn6 f6 ⟨e1, e2, e3⟩ => ?_
  subst e1; subst e2; subst e3
  simp only [bY, aF, aI, aC, fgr, execOp, opd, aD, put, nth, aB, Nat.reduceAdd, gB]
  refine ⟨(by (try simp (disch := first | assumption | omega) only [dF, List.all_cons, List.all_nil, gB, gF]); repeat' (first | rfl | exact (Bool.or_eq_true _ _).mpr (.inr rfl) | refine (Bool.and_eq_true _ _).mpr ⟨?_, ?_⟩)), ?_⟩
  exact ⟨rfl, fun j hj => by rw [o4 j (by omega), o1 j hj]⟩
def there (v : Ver) (z : Int) : Bool := decide (v.made ≤ z) && (decide (v.bZ = 0) || decide (z < v.bZ))
theorem f82 (v : Ver) (sv : a9) (ov : v.Ok) (z : Int) (h : Hp) (n : Nat) (hf : bO h n) :
    Wp (bD env (evalW env) 82 [.agg (aO v sv), .int .i64 z]) h n fun v' h' n' => v' = .bool (there v z) ∧ Old h h' n := by
  refine bL ff82 fi82 ?_
  simp only [UG, Try.f82, Option.getD_some, List.replicate, aC, execOp, opd, nth, ended, aT, aU, Nat.reduceAdd, Nat.reduceSub, gL, gI]
  refine dA (v := .agg (aO v sv)) dY rfl hf fun H1 r1 o1 f1 => ?_
  simp only [aC, tyr, fgr, execOp, opd, ofValue, aD, put, nth, aB, und, sizeOf, bor, aJ, aK, intOp, aZ, aS, fieldAddr, aM (eS r1 ov), gL, gB, gI]
  by_cases c1 : v.made ≤ z
  · by_cases c2 : v.bZ = 0
    · simp only [aC, tyr, fgr, execOp, opd, ofValue, aD, put, nth, aB, und, sizeOf, bor, aJ, aK, intOp, bC, branch, aZ, aS, fieldAddr, beq_self_eq_true, aM (dD r1 ov), c1, c2, gL, gB, gI]
      exact ⟨by simp [there, c1, c2], fun j hj => o1 j (by omega)⟩
    · by_cases c3 : z < v.bZ
      · simp only [aC, tyr, fgr, execOp, opd, ofValue, aD, put, nth, aB, und, sizeOf, bor, aJ, aK, intOp, bC, branch, aZ, aS, fieldAddr, gt_iff_lt, aM (dD r1 ov), c1, c2, c3, gL, gB, gI]
        exact ⟨by simp [there, c1, c2, c3], fun j hj => o1 j (by omega)⟩
      · simp only [aC, tyr, fgr, execOp, opd, ofValue, aD, put, nth, aB, und, sizeOf, bor, aJ, aK, intOp, bC, branch, aZ, aS, fieldAddr, gt_iff_lt, aM (dD r1 ov), c1, c2, c3, gL, gB, gI]
        exact ⟨by simp [there, c1, c2, c3], fun j hj => o1 j (by omega)⟩
  · simp only [aC, dN, fgr, execOp, opd, ofValue, aD, put, nth, aB, bC, branch, c1, gL, gB]
    exact ⟨by simp [there, c1], fun j hj => o1 j (by omega)⟩
theorem f90 (v : a9) (l : List UInt8) (h : Hp) (n : Nat) (hb : Bytes h v l) (hl : l.length ≤ 1000000) (hf : bO h n) : Wp (bD env (evalW env) 90 [v]) h n fun v' h' n' => Bytes h' v' l ∧ (∀ j, bB v' = some j → n ≤ j ∧ j < n') ∧ Old h h' n := by
  refine bL ff90 fi90 ?_
  simp only [U9, Try.f90, Option.getD_some, List.replicate, aC, fgr, execOp, opd, ofValue, aD, put, nth, aB, ended, aT, aU, Nat.reduceSub, hb.BY t29, gL, gI]
  cases hnil : lN v with
  | true =>
    simp only [aC, fgr, execOp, opd, ofValue, aD, put, nth, aB, gB]
    have := hb.nil.2 hnil
    subst this
    exact ⟨.aV, (fun j hj => by cases hj), Old.refl _ _⟩
  | false =>
    simp only [aC, tyr, execOp, opd, bG, dE, aD, put, nth, aL, builtin, fC, und, newRow, aZ, buildSlice, fQ, fill, Nat.ble, gI]
    refine fU (i := ⟨.int .u8, 1, 1, .int .u8 0⟩) (e := 5) (cnt := 0) (xs := []) (A0 (aW _ _ _) rfl (fun k hk => by injection hk with hk; exact hk.symm)) ((hb.aX fun j hj => ?_).rds) t29 t29 ti5 (sV l) (by decide) (by show 2 * (0 + l.length) * 1 ≤ _; omega) (by omega) hf.new ?_
    · rw [aP]
      intro e
      cases hb with
      | aV => cases hj
      | isl => cases hj
      | sl id off cap c e2 l hh hs hc => injection hj with hj; subst hj; subst e; rw [hf _ (Nat.le_refl _)] at hh; cases hh
    · intro v' h' n' hn hf' ho hid hold
      simp only [aC, fgr, execOp, opd, aD, put, nth, aB, gB]
      rw [List.nil_append] at ho
      refine ⟨ho.rds.bytes (by intro e; subst e; cases ho), fun j hj => ?_, fun j hj => ?_⟩
      · rcases hid with q | ⟨q, q2⟩
        · rw [q] at hj; injection hj with hj; subst hj; exact ⟨Nat.le_refl _, by omega⟩
        · rw [q] at hj; injection hj with hj; omega
      · rw [hold j (by omega) (fun e => by injection e with e; omega), aP _ _ (by omega)]
theorem cL {v : Ver} {sv : a9} (h1 : bN sv = true) : (aO v sv).all bN = true := by
  unfold aO mL
  rw [List.all_append, qQ, List.all_append, sV]
  simp only [List.all_cons, List.all_nil, h1, Bool.and_true]
  rfl
theorem xY {v : Ver} {sv s' : a9} (h : v.hash.length = 32) : cB (aO v sv) 35 [s'] = aO v s' := by
  unfold cB aO
  have hl := cA (pn := v.pn) h
  rw [List.take_append, List.drop_append, hl, List.take_of_length_le (by rw [hl]; omega), List.drop_eq_nil_of_le (by rw [hl]; simp)]
  simp only [List.length_singleton, mL, List.append_assoc]
  rfl
theorem f77 (v : Ver) (sv : a9) (ov : v.Ok) (h : Hp) (n : Nat) (hs : Bytes h sv v.aR) (hsn : ∀ j, bB sv = some j → j < n) (hl : v.aR.length ≤ 1000000) (hf : bO h n) :
    Wp (bD env (evalW env) 77 [.agg (aO v sv)]) h n fun v' h' n' => ∃ s', v' = .agg (aO v s') ∧ Bytes h' s' v.aR ∧ (∀ j, bB s' = some j → n ≤ j ∧ j < n') ∧ Old h h' n := by
  refine bL ff77 fi77 ?_
  simp only [UL, Try.f77, Option.getD_some, List.replicate, aC, execOp, opd, nth, ended, aT, aU, Nat.reduceSub, gL, gI]
  refine dA (v := .agg (aO v sv)) dY rfl hf fun H1 r1 o1 f1 => ?_
  simp only [aC, execOp, aD, put]
  rw [cD dY rfl]
  obtain ⟨H2, hH2⟩ : ∃ H2, H2 = upd H1 (n + 1) (some (Blk.row (bQ.l fG.i.zero.cells) 31)) := ⟨_, rfl⟩
  have f2 : bO H2 (n + 1 + 1) := by rw [hH2]; exact f1.new
  have o2 : ∀ j, j ≠ n + 1 → H2 j = H1 j := fun j hj => by rw [hH2, aP _ _ hj]
  have r2 : H2 (n + 1) = some (Blk.row (bQ.l fG.i.zero.cells) 31) := by rw [hH2, aW]
  show Ops env 77 none _ _ _ _ _ (upd H1 (n + 1) (some (Blk.row (bQ.l fG.i.zero.cells) 31))) _
  rw [← hH2]
  clear hH2
  have r1 := r1.aX (o2 n (by omega))
  have old2 : Old h H2 n := fun j hj => by rw [o2 j (by omega), o1 j (by omega)]
  simp only [aC, tyr, fgr, execOp, opd, aD, put, nth, aB, und, sizeOf, aZ, aS, fieldAddr, gL, gI]
  rw [aM (iO r1 ov)]
  simp only [aC, hkr, execOp, opd, bG, aD, put, nth, aL, aE, gL]
  refine bF f2 (f90 sv v.aR H2 _ (hs.aX fun j hj => old2 j (hsn j hj)) hl f2) fun s' H3 n3 hn3 f3 ⟨b3, i3, o3⟩ => ?_
  simp only [aC, tyr, execOp, opd, aD, put, nth, und, sizeOf, aZ, aS, fieldAddr, gL, gI]
  obtain ⟨e1, he1⟩ := r1.aX (o3 n (by omega))
  rw [dR (Row.write he1 uC (by rw [b3.kind.1]; rfl) (by show 35 + 1 ≤ (aO v sv).length; rw [bM ov.h ov.b]; decide) (by rw [b3.kind.1]; simp [b3.kind.2.1]))]
  rw [b3.kind.1, show cB (a9.agg (aO v sv)).cells 35 [s'] = aO v s' from xY ov.h]
  simp only [aC, fgr, execOp, opd, aD, nth, aB]
  have f4 : bO (upd H3 n (some (Blk.row (bQ.l (aO v s')) e1))) n3 := f3.upd (by omega)
  have r4 : Row (upd H3 n (some (Blk.row (bQ.l (aO v s')) e1))) n (aO v s') := Row.new _ _ _ _
  rw [aM (eN r4 ov)]
  simp only [aC, execOp, opd, aD, put, nth]
  have q4 : (upd H3 n (some (Blk.row (bQ.l (aO v s')) e1))) (n + 1) = some (Blk.row (bQ.l fG.i.zero.cells) 31) := by rw [aP _ _ (by omega), o3 _ (by omega), r2]
  rw [dR (Row.write q4 dY (v := .agg (aO v s')) (bM ov.h ov.b) (by decide) (cL b3.kind.2.1))]
  rw [dZ (by show (aO v s').length = _; rw [bM ov.h ov.b]; rfl)]
  have hne : ∀ j, bB s' = some j → j ≠ n ∧ j ≠ n + 1 := fun j hj => by have := i3 j hj; omega
  have r5 : Row (upd (upd H3 n (some (Blk.row (bQ.l (aO v s')) e1))) (n + 1) (some (Blk.row (bQ.l (a9.agg (aO v s')).cells) 31))) (n + 1) (aO v s') := Row.new _ _ _ _
  simp only [aC, fgr, aD, nth, aB, cel, true_and]
  refine eQ (eN r5 ov) ?_
  refine wp_pure.2 ⟨s', rfl, b3.aX fun j hj => ?_, fun j hj => by have := i3 j hj; omega, fun j hj => ?_⟩
  · rw [aP _ _ (hne j hj).2, aP _ _ (hne j hj).1]
  · rw [aP _ _ (by omega), aP _ _ (by omega), o3 j (by omega), old2 j hj]
theorem f73 (x : Nat) (cs : List a9) (b : Bool) (h : Hp) (n : Nat) (hr : Row h x cs) (hc : cs[0]? = some (.bool b)) : Wp (bD env (evalW env) 73 [.ptr x 0]) h n fun v' h' n' => v' = .bool (!b) ∧ h' = h ∧ n' = n := by
  refine bL ff73 fi73 ?_
  simp only [UP, Try.f73, Option.getD_some, List.replicate, aC, tyr, fgr, execOp, opd, ofValue, aD, put, nth, aB, und, sizeOf, bor, bE, dG, dU, unOp, bC, branch, nilCheck, aZ, ended, aT, aU, aS, fieldAddr, bJ, equal, cZ, cH, cJ, Nat.reduceSub, aM (hr.one hc ti4 rfl), gL, gB, gI]
theorem f75 (h : Hp) (n : Nat) (v : a9) : Wp (bD env (evalW env) 75 [v]) h n fun v' h' n' => v' = .bool true ∧ h' = h ∧ n' = n := by
  refine bL ff75 fi75 ?_
  simp only [UN, Try.f75, Option.getD_some, List.replicate, aC, fgr, execOp, opd, ofValue, aD, put, nth, aB, ended, aT, aU, Nat.reduceSub, gL, gB, gI]
structure Ps (h : Hp) (D : Nat → Prop) (xs : List a9) (vs : List Ver) : Prop where
  len : xs.length = vs.length
  at_ : ∀ (j : Nat) x v, xs[j]? = some x → vs[j]? = some v → ∃ id sv, x = .ptr id 0 ∧ At h id sv v ∧ D id ∧ ∀ i, bB sv = some i → D i
theorem Ps.mono {h h' : Hp} {D D' : Nat → Prop} {xs : List a9} {vs : List Ver} (p : Ps h D xs vs) (hd : ∀ j, D j → D' j) (hk : ∀ j, D j → h' j = h j) : Ps h' D' xs vs :=
  ⟨p.len, fun j x v hx hv => by
    obtain ⟨id, sv, e, a, d1, d2⟩ := p.at_ j x v hx hv
    exact ⟨id, sv, e, a.aX (hk id d1) (fun i hi => hk i (d2 i hi)), hd id d1, fun i hi => hd i (d2 i hi)⟩⟩
theorem Ps.get {h : Hp} {D : Nat → Prop} {xs : List a9} {vs : List Ver} (p : Ps h D xs vs) {j : Nat} (hj : j < vs.length) : ∃ id sv, xs[j]? = some (.ptr id 0) ∧ At h id sv vs[j] ∧ D id ∧ ∀ i, bB sv = some i → D i := by
  have hx : j < xs.length := by rw [p.len]; exact hj
  obtain ⟨id, sv, e, a⟩ := p.at_ j _ _ (List.getElem?_eq_getElem hx) (List.getElem?_eq_getElem hj)
  exact ⟨id, sv, by rw [List.getElem?_eq_getElem hx, e], a⟩
theorem Ps.cells {h : Hp} {D : Nat → Prop} {xs : List a9} {vs : List Ver} (p : Ps h D xs vs) : xs.all bN = true := by
  refine MT fun j x hx => ?_
  have hj := (List.getElem?_eq_some_iff.1 hx).1
  obtain ⟨id, sv, rfl, _⟩ := p.at_ j x _ hx (List.getElem?_eq_getElem (by rw [← p.len]; exact hj))
  rfl
def iE : Bool → Ver → Ver → Int
  | false => fM
  | true => E3
def fid : Bool → Nat
  | false => 84
  | true => 85
def fo (o : Bool) : a9 := .fn (.func (fid o)) [] []
theorem hkO (o : Bool) (args : List a9) : c9 env (evalW env) (fid o) args = bD env (evalW env) (fid o) args := by cases o <;> rfl
theorem fO (o : Bool) (a b : Nat) (sa sb : a9) (v w : Ver) (h : Hp) (n : Nat) (ha : AtN h n a sa v) (hb : AtN h n b sb w) (hf : bO h n) :
    Wp (bD env (evalW env) (fid o) [.ptr a 0, .ptr b 0]) h n fun v' h' n' => v' = .int .i64 (iE o v w) ∧ Old h h' n := by
  cases o
  · exact f84 a b sa sb v w h n ha hb hf
  · exact f85 a b sa sb v w h n ha hb hf
theorem u95 : und env 95 = M.pure (.slice 128) := rfl
theorem pX : sizeOf env 128 = M.pure 1 := rfl
theorem mid (i j : Nat) (h : i + j ≤ 1000000000) : IntKind.i64.wrap (Int.fdiv (IntKind.u64.wrap (IntKind.i64.wrap ((i : Int) + (j : Int)))) (2 ^ min (Int.toNat 1) IntKind.u64.bits)) = (((i + j) / 2 : Nat) : Int) := by
  have e1 : IntKind.i64.wrap ((i : Int) + (j : Int)) = (i : Int) + (j : Int) := w64 (by omega) (by omega)
  have e2 : IntKind.u64.wrap ((i : Int) + (j : Int)) = (i : Int) + (j : Int) := wu64 (by omega) (by omega)
  have e3 : ((2 : Int) ^ min (Int.toNat 1) IntKind.u64.bits) = 2 := by decide
  have e4 : ((i : Int) + (j : Int)).fdiv 2 = (((i + j) / 2 : Nat) : Int) := by rw [Int.fdiv_eq_ediv_of_nonneg _ (by decide)]; omega
  rw [e1, e2, e3, e4]
  exact w64 (by omega) (by omega)
theorem OD (Q : eJ) (ks : List Kf) (o : Bool) (v : a9) (t : Nat) (st : a9) (tv : Ver) (cnt : Nat) (xs : List a9) (vs : List Ver) (D : Nat → Prop) (h0 : Hp) (n0 : Nat) (hc : cnt ≤ 100000000) (hv : Rds h0 1 v cnt xs) (hvn : ∀ j, bB v = some j → j < n0) (hp : Ps h0 D xs vs) (hD : ∀ j, D j → j < n0) (ht : AtN h0 n0 t st tv)
    (hmono : ∀ (a b : Nat) (ha : a < vs.length) (hb : b < vs.length), a < b → iE o vs[b] tv < 0 → iE o vs[a] tv < 0)
    (hT : ∀ (p : Nat) (h : Hp) (n : Nat) (x6 x7 x11 x17 x31 : a9), p ≤ cnt → (∀ k (hk : k < vs.length), k < p → iE o vs[k] tv < 0) → (∀ k (hk : k < vs.length), p ≤ k → ¬ iE o vs[k] tv < 0) → n0 ≤ n → bO h n → Old h0 h n0 →
      dV env 114 none Q ks (.exit 0) (v :: .ptr t 0 :: fo o :: a9.aA :: a9.aA :: a9.aA :: x6 :: x7 :: .int .i64 (cnt : Nat) :: .int .i64 (p : Nat) :: .int .i64 (p : Nat) :: x11 :: a9.aA :: a9.aA :: a9.aA :: a9.aA :: a9.aA :: x17 :: a9.aA :: a9.aA :: a9.aA :: a9.aA :: a9.aA :: a9.aA :: a9.aA :: a9.aA :: a9.aA :: a9.aA :: a9.aA :: a9.aA :: a9.aA :: x31 :: a9.aA :: a9.aA :: a9.aA :: a9.aA :: a9.aA :: a9.aA :: a9.aA :: a9.aA :: a9.aA :: a9.aA :: a9.aA :: a9.aA :: a9.aA :: a9.aA :: a9.aA :: a9.aA :: a9.aA :: []) h n) :
    ∀ (m i j : Nat) (h : Hp) (n : Nat) (x6 x7 x11 x17 x31 : a9), j - i ≤ m → i ≤ j → j ≤ cnt → (∀ k (hk : k < vs.length), k < i → iE o vs[k] tv < 0) → (∀ k (hk : k < vs.length), j ≤ k → ¬ iE o vs[k] tv < 0) → n0 ≤ n → bO h n → Old h0 h n0 →
      Run env 114 none Q (.loop uQ) ks (v :: .ptr t 0 :: fo o :: a9.aA :: a9.aA :: a9.aA :: x6 :: x7 :: .int .i64 (cnt : Nat) :: .int .i64 (i : Nat) :: .int .i64 (j : Nat) :: x11 :: a9.aA :: a9.aA :: a9.aA :: a9.aA :: a9.aA :: x17 :: a9.aA :: a9.aA :: a9.aA :: a9.aA :: a9.aA :: a9.aA :: a9.aA :: a9.aA :: a9.aA :: a9.aA :: a9.aA :: a9.aA :: a9.aA :: x31 :: a9.aA :: a9.aA :: a9.aA :: a9.aA :: a9.aA :: a9.aA :: a9.aA :: a9.aA :: a9.aA :: a9.aA :: a9.aA :: a9.aA :: a9.aA :: a9.aA :: a9.aA :: a9.aA :: a9.aA :: []) h n := by
  intro m
  have hcl : cnt = vs.length := by have := hv.length; have := hp.len; omega
  induction m with
  | zero =>
    intro i j h n x6 x7 x11 x17 x31 hm hij hjc h1 h2 hn hf ho
    have : i = j := by omega
    subst this
    rw [cF]
    have hcc : ¬ ((i : Int) < (i : Int)) := by omega
    simp only [uQ, bS, Try.f114, Option.getD_some, aC, fgr, execOp, opd, aD, put, nth, aB, bor, aJ, aK, intOp, List.getD_cons_zero, hcc, gL, gB]
    exact hT i h n _ _ _ _ _ hjc h1 h2 hn hf ho
  | succ m ih =>
    intro i j h n x6 x7 x11 x17 x31 hm hij hjc h1 h2 hn hf ho
    rw [cF]
    by_cases hlt : i < j
    · have hcc : ((i : Int) < (j : Int)) := by omega
      have hk : (i + j) / 2 < cnt := by omega
      have hv' := hv.aX (h' := h) (fun j hj => ho j (hvn j hj))
      have hp' := hp.mono (D' := D) (fun _ q => q) (fun j hj => ho j (hD j hj))
      obtain ⟨id, sv, hx, a, d1, d2⟩ := hp'.get (j := (i + j) / 2) (by omega)
      have hidx := hv'.idx (E := env) u95 pX (kk := .i64) (z := (((i + j) / 2 : Nat) : Int)) (j := (i + j) / 2) rfl hk (h' := h) (n' := n)
      have hld := hv'.load (E := env) iV rfl (k := (i + j) / 2 * 1) (n := n) (by rw [Nat.mul_one]; exact hx)
      simp only [uQ, bS, Try.f114, Option.getD_some, aC, tyr, fgr, execOp, opd, ofValue, aD, put, nth, aB, und, lenOf, bor, aJ, aK, cP, intOp, bU, dG, cW, Int.reduceLE, convert, hU, qC, List.getD_cons_zero, hcc, mid i j (by omega), gL, gB]
      rw [aM hidx]
      simp only [aC, execOp, opd, aD, put, nth]
      rw [aM hld]
      simp only [aC, execOp, opd, bG, aD, put, nth, aL, aE, fo, hkO, gL]
      have atn : AtN h n id sv (vs[(i + j) / 2]'(by omega)) := ⟨a, by have := hD _ d1; omega, fun q hq => by have := hD _ (d2 q hq); omega⟩
      refine bF hf (fO o id t sv st _ tv h n atn (ht.old hn ho) hf) fun v' h' n' hn' hf' ⟨e', o'⟩ => ?_
      subst e'
      have ho' : Old h0 h' n0 := fun q hq => (o' q (by omega)).trans (ho q hq)
      by_cases hneg : iE o (vs[(i + j) / 2]'(by omega)) tv < 0
      · have w1 : IntKind.i64.wrap ((((i + j) / 2 : Nat) : Int) + 1) = (((i + j) / 2 + 1 : Nat) : Int) := by rw [w64 (by omega) (by omega)]; omega
        simp only [aC, fgr, execOp, opd, ofValue, aD, put, nth, aB, bor, aJ, aK, intOp, bU, hneg, w1, gB]
        exact ih ((i + j) / 2 + 1) j h' n' _ _ _ _ _ (by omega) (by omega) hjc (fun k hk hlt => by
          by_cases q : k = (i + j) / 2
          · subst q; exact hneg
          · exact hmono k ((i + j) / 2) hk (by omega) (by omega) hneg) h2 (by omega) hf' ho'
      · simp only [aC, fgr, execOp, opd, ofValue, aD, put, nth, aB, bor, aJ, aK, intOp, hneg, gB]
        exact ih i ((i + j) / 2) h' n' _ _ _ _ _ (by omega) (by omega) (by omega) h1 (fun k hk hle hlt => by
          by_cases q : k = (i + j) / 2
          · subst q; exact hneg hlt
          · exact hneg (hmono ((i + j) / 2) k (by omega) hk (by omega) hlt)) (by omega) hf' ho'
    · have : i = j := by omega
      subst this
      have hcc : ¬ ((i : Int) < (i : Int)) := by omega
      simp only [uQ, bS, Try.f114, Option.getD_some, aC, fgr, execOp, opd, aD, put, nth, aB, bor, aJ, aK, intOp, List.getD_cons_zero, hcc, gL, gB]
      exact hT i h n _ _ _ _ _ hjc h1 h2 hn hf ho
structure Pos (o : Bool) (vs : List Ver) (t : Ver) (p : Nat) : Prop where
  le : p ≤ vs.length
  lo : ∀ k (hk : k < vs.length), k < p → iE o vs[k] t < 0
  hi : ∀ k (hk : k < vs.length), p ≤ k → ¬ iE o vs[k] t < 0
def uE (o : Bool) (vs : List Ver) (t : Ver) (p : Nat) : Bool := match vs[p]? with
  | some w => decide (iE o w t = 0)
  | none => false
def HX (o : Bool) (vs : List Ver) (t : Ver) : Prop := ∀ (a b : Nat) (ha : a < vs.length) (hb : b < vs.length), a < b → iE o vs[b] t < 0 → iE o vs[a] t < 0
theorem f114 (o : Bool) (v : a9) (t : Nat) (st : a9) (tv : Ver) (cnt : Nat) (xs : List a9) (vs : List Ver) (D : Nat → Prop) (h : Hp) (n : Nat) (hc : cnt ≤ 100000000) (hv : Rds h 1 v cnt xs) (hvn : ∀ j, bB v = some j → j < n) (hp : Ps h D xs vs) (hD : ∀ j, D j → j < n) (ht : AtN h n t st tv)
    (hmono : HX o vs tv) (hf : bO h n) :
    Wp (bD env (evalW env) 114 [v, .ptr t 0, fo o]) h n fun v' h' n' => ∃ p, Pos o vs tv p ∧ v' = .tup [.int .i64 (p : Nat), .bool (uE o vs tv p)] ∧ Old h h' n := by
  have hcl : cnt = vs.length := by have := hv.length; have := hp.len; omega
  refine bL aa5 Z3 ?_
  simp only [KS, Try.f114, Option.getD_some, List.replicate, aC, fgr, execOp, opd, bG, ofValue, aD, put, nth, aB, aL, builtin, dH, ended, aT, aU, Nat.reduceAdd, Nat.reduceSub, hv.cY u95, gL, gI]
  refine OD _ _ o v t st tv cnt xs vs D h n hc hv hvn hp hD ht hmono ?_ cnt 0 cnt h n _ _ _ _ _ (by omega) (by omega) (Nat.le_refl _) (fun k _ hk => by omega) (fun k hk hle => by omega) (Nat.le_refl _) hf (Old.refl _ _)
  intro p h1 n1 x6 x7 x11 x17 x31 hpc hlo hhi hn1 hf1 ho1
  have hP : Pos o vs tv p := ⟨by omega, hlo, hhi⟩
  by_cases hlt : p < cnt
  · have hcc : ((p : Int) < ((cnt : Nat) : Int)) := by omega
    have hv' := hv.aX (h' := h1) (fun j hj => ho1 j (hvn j hj))
    have hp' := hp.mono (D' := D) (fun _ q => q) (fun j hj => ho1 j (hD j hj))
    obtain ⟨id, sv, hx, a, d1, d2⟩ := hp'.get (j := p) (by omega)
    have hidx := hv'.idx (E := env) u95 pX (kk := .i64) (z := ((p : Nat) : Int)) (j := p) rfl hlt (h' := h1) (n' := n1)
    have hld := hv'.load (E := env) iV rfl (k := p * 1) (n := n1) (by rw [Nat.mul_one]; exact hx)
    simp only [aC, execOp, opd, aD, put, nth, bor, aJ, aK, intOp, hcc, gL, gB]
    rw [aM hidx]
    simp only [aC, execOp, opd, aD, put, nth, gL]
    rw [aM hld]
    simp only [aC, execOp, opd, bG, aD, put, nth, aL, aE, fo, hkO, gL]
    have atn : AtN h1 n1 id sv (vs[p]'(by omega)) := ⟨a, by have := hD _ d1; omega, fun q hq => by have := hD _ (d2 q hq); omega⟩
    refine bF hf1 (fO o id t sv st _ tv h1 n1 atn (ht.old hn1 ho1) hf1) fun v' h' n' hn' hf' ⟨e', o'⟩ => ?_
    subst e'
    have hia : uE o vs tv p = decide (iE o (vs[p]'(by omega)) tv = 0) := by
      unfold uE
      rw [List.getElem?_eq_getElem (by omega)]
    simp only [aC, fgr, execOp, opd, ofValue, aD, put, nth, aB, bor, aJ, aK, intOp, bC, branch, gL, gB, gI]
    exact ⟨p, hP, by rw [hia], fun q hq => (o' q (by omega)).trans (ho1 q hq)⟩
  · have hcc : ¬ ((p : Int) < ((cnt : Nat) : Int)) := by omega
    have hia : uE o vs tv p = false := by
      unfold uE
      rw [List.getElem?_eq_none (by omega)]
    simp only [aC, fgr, execOp, opd, ofValue, aD, put, nth, aB, bor, aJ, aK, intOp, bC, branch, hcc, gL, gB]
    exact ⟨p, hP, by rw [hia], ho1⟩
theorem f103 (o : Bool) (x off : Nat) (cs : List a9) (v : a9) (t : Nat) (st : a9) (tv : Ver) (cnt : Nat) (xs : List a9) (vs : List Ver) (D : Nat → Prop) (h : Hp) (n : Nat) (hr : Row h x cs) (hc0 : cs[off]? = some v) (hc1 : cs[off + 1]? = some (fo o)) (hc : cnt ≤ 100000000) (hv : Rds h 1 v cnt xs) (hvn : ∀ j, bB v = some j → j < n) (hp : Ps h D xs vs) (hD : ∀ j, D j → j < n) (ht : AtN h n t st tv)
    (hmono : HX o vs tv) (hf : bO h n) :
    Wp (bD env (evalW env) 103 [.ptr x off, .ptr t 0]) h n fun v' h' n' => ∃ p, Pos o vs tv p ∧ v' = .tup [.int .i64 (p : Nat), .bool (uE o vs tv p)] ∧ Old h h' n := by
  refine bL ab3 ZB ?_
  simp only [L4, Try.f103, Option.getD_some, List.replicate, aC, fgr, execOp, opd, ofValue, aD, put, aB, ended, aT, aU, Nat.reduceAdd, Nat.reduceSub, gL, gI]
  refine cG ⟨rfl, ?_⟩
  simp only [aF, aI, aC, tyr, execOp, opd, aD, put, nth, und, sizeOf, nilCheck, aZ, aS, fieldAddr, Nat.reduceAdd, gL, gI]
  rw [bP (hr.one hc0 pZ rfl)]
  simp only [aF, aI, aC, tyr, execOp, opd, aD, put, nth, und, sizeOf, nilCheck, aZ, aS, fieldAddr, Nat.reduceAdd, gL]
  rw [bP (hr.one hc1 G1 rfl)]
  simp only [aF, hkr, execOp, opd, bG, aD, put, nth, aL, aE, Nat.reduceAdd, gL]
  refine eF hf (f114 o v t st tv cnt xs vs D h n hc hv hvn hp hD ht hmono hf) fun v5 h5 n5 r5 w5 hn5 f5 ⟨p, hP, e1, o1⟩ => ?_
  subst e1
  simp only [bY, aF, aI, aC, fgr, execOp, opd, aD, put, nth, aB, extract, aZ, Nat.reduceAdd, gL, gB]
  refine ⟨(by (try simp (disch := first | assumption | omega) only [dF, List.all_cons, List.all_nil, gB, gF]); repeat' (first | rfl | exact (Bool.or_eq_true _ _).mpr (.inr rfl) | refine (Bool.and_eq_true _ _).mpr ⟨?_, ?_⟩)), ?_⟩
  exact ⟨p, hP, rfl, o1⟩
inductive Lp (h : Hp) : a9 → Nat → List a9 → Prop
  | nil : Lp h .aV 0 []
  | zero (id off : Nat) (c : bQ) (hh : h id = some (.row c 128)) (hs : off ≤ c.size) : Lp h (.sl id off 0 (some 0) 1) 0 []
  | sl (id cnt : Nat) (cells xs : List a9) (hh : h id = some (.row (.l cells) 128)) (h0 : 0 < cells.length) (hl : cnt ≤ cells.length) (hx : cells.take cnt = xs) : Lp h (.sl id 0 cnt none 1) cnt xs
theorem Lp.rds {h : Hp} {s : a9} {cnt : Nat} {xs : List a9} (l : Lp h s cnt xs) : Rds h 1 s cnt xs := by
  cases l with
  | nil => exact .aV
  | zero id off c hh hs => exact .sl id off 0 (some 0) c 128 _ hh rfl (by simpa using hs) (fun j hj => by simp at hj)
  | sl id cnt cells xs hh h0 hl hx =>
    subst hx
    exact .sl id 0 cnt none (.l cells) 128 _ hh (by rw [List.length_take]; omega) (by rw [List.length_take]; show 0 + _ ≤ cells.length; omega) (fun j hj => by
      rw [List.length_take] at hj
      rw [Nat.zero_add, bQ.tM (by omega), List.getElem_take])
theorem Lp.aX {h h' : Hp} {s : a9} {cnt : Nat} {xs : List a9} (l : Lp h s cnt xs) (hk : ∀ j, bB s = some j → h' j = h j) : Lp h' s cnt xs := by
  cases l with
  | nil => exact .nil
  | zero id off c hh hs => exact .zero id off c ((hk id rfl).trans hh) hs
  | sl id cnt cells xs hh h0 hl hx => exact .sl id cnt cells xs ((hk id rfl).trans hh) h0 hl hx
theorem Lp.live {h : Hp} {n : Nat} {s : a9} {cnt : Nat} {xs : List a9} (l : Lp h s cnt xs) (hf : bO h n) {j : Nat} (hj : bB s = some j) : j < n := by
  by_cases q : j < n
  · exact q
  · cases l with
    | nil => cases hj
    | zero id off c hh hs => injection hj with hj; subst hj; rw [hf id (by omega)] at hh; cases hh
    | sl id cnt cells xs hh h0 hl hx => injection hj with hj; subst hj; rw [hf id (by omega)] at hh; cases hh
theorem QB {h : Hp} {n xid k cnt : Nat} {s x : a9} {xs : List a9} (l : Lp h s cnt xs) (hx : h xid = some (.row (.l [x]) 128)) (h1 : bN x = true) (hk : k ≤ cnt) (hc : cnt ≤ 100000000) (hxs : xs.all bN = true) (hne : bB s ≠ some xid) (hf : bO h n) :
    Wp (tF 128 nX.i [s, .int .i64 (k : Nat), .sl xid 0 1 (some 1) 1]) h n fun v' h' n' => v' = .sl n 0 (cnt + 1) none 1 ∧ n' = n + 1 ∧ h' n = some (.row (.l (fW xs k x)) 128) ∧ ∀ j, j < n → bB s ≠ some j → h' j = h j := by
  have hxn : xid < n := by
    by_cases q : xid < n
    · exact q
    · rw [hf xid (by omega)] at hx; cases hx
  have b1 : Nat.blt xid n = true := Nat.ble_eq_true_of_le hxn
  have b2 : Nat.blt 0 1 = true := rfl
  have r0 : ((2 * 1 * 8).ble room && (1).ble room) = true := rfl
  simp only [tF, MW, fI, hx, Option.some.injEq, exists_eq_left', cX, eY, b1, bQ.size, bQ.at, nth, List.length_singleton, b2, Nat.beq_refl, h1, Bool.and_self, true_and]
  cases l with
  | nil =>
    have : k = 0 := by omega
    subst this
    simp only [pN, grown, eY, iH, wp_pure, decide_true, Int.cast_ofNat_Int, nX, r0, true_and]
    exact ⟨aW _ _ _, fun j hj _ => aP _ _ (by omega)⟩
  | zero id off c hh hs =>
    have : k = 0 := by omega
    subst this
    have hid : id < n := by
      by_cases q : id < n
      · exact q
      · rw [hf id (by omega)] at hh; cases hh
    have b3 : Nat.blt id n = true := Nat.ble_eq_true_of_le hid
    have b4 : off.ble c.size = true := Nat.ble_eq_true_of_le hs
    unfold bQ.size at b4
    simp only [bR, fI, hh, Option.some.injEq, exists_eq_left', cX, eY, b3, b4, Nat.beq_refl, Bool.and_self, true_and, pN, grown, iH, wp_pure, decide_true, Int.cast_ofNat_Int, nX, r0]
    exact ⟨aW _ _ _, fun j hj _ => aP _ _ (by omega)⟩
  | sl id cnt cells xs hh h0 hl hxx =>
    subst hxx
    have hid : id < n := by
      by_cases q : id < n
      · exact q
      · rw [hf id (by omega)] at hh; cases hh
    have b3 : Nat.blt id n = true := Nat.ble_eq_true_of_le hid
    have b4 : Nat.blt 0 cells.length = true := Nat.ble_eq_true_of_le h0
    have b5 : cnt.ble cells.length = true := Nat.ble_eq_true_of_le hl
    have b6 : (id.beq xid) = false := jW (fun e => hne (by rw [e]; rfl))
    have b7 : Y4 ((k : Nat) : Int) cnt = true := decide_eq_true ⟨by omega, by omega⟩
    have b8 : (bQ.l cells).sub 0 cnt = cells.take cnt := rfl
    have r1 : ((2 * (cnt + 1) * 8).ble room && (cnt + 1).ble room) = true := by
      unfold room
      rw [dC (by omega), dC (by omega)]; rfl
    simp only [bR, fI, hh, Option.some.injEq, exists_eq_left', cX, eY, b3, b4, b5, b6, b7, b8, hxs, Nat.beq_refl, Bool.not_false, Bool.and_self, true_and, zD, grown, iH, wp_pure, nX, r1, Int.toNat_natCast]
    refine ⟨by simp, aW _ _ _, fun j hj hn => ?_⟩
    rw [aP _ _ (by omega), aP _ _ (fun e => hn (by rw [e]; rfl))]
theorem bs95 (x : a9) (hx : x.cells = [x] ∧ bN x = true ∧ eD x = false) : buildSlice env 95 1 [(0, x)] = (newRow env 128 [x]).bind fun id => M.pure (.sl id 0 1 (some 1) 1) := by
  cases x with
  | agg l => cases hx.2.1
  | tup l => cases hx.2.1
  | aA => cases hx.2.1
  | _ => rfl
theorem f78 (o : Bool) (x off : Nat) (cs : List a9) (v : a9) (t : Nat) (st : a9) (tv : Ver) (cnt : Nat) (xs : List a9) (vs : List Ver) (D : Nat → Prop) (h : Hp) (n : Nat) (hr : Row h x cs) (hc0 : cs[off]? = some v) (hc1 : cs[off + 1]? = some (fo o)) (hc : cnt ≤ 10000000) (hv : Lp h v cnt xs) (hp : Ps h D xs vs) (hD : ∀ j, D j → j < n ∧ bB v ≠ some j) (ht : AtN h n t st tv)
    (hmono : HX o vs tv) (hx : x < n) (hxv : bB v ≠ some x) (hf : bO h n) :
    Wp (bD env (evalW env) 78 [.ptr x off, .ptr t 0]) h n fun v' h' n' => v' = .tup [] ∧ ∃ p m, Pos o vs tv p ∧ n ≤ m ∧ m < n' ∧ Lp h' (.sl m 0 (cnt + 1) none 1) (cnt + 1) (fW xs p (.ptr t 0)) ∧ Row h' x (cB cs off [.sl m 0 (cnt + 1) none 1]) ∧ ∀ j, j < n → j ≠ x → bB v ≠ some j → h' j = h j := by
  have hcl : cnt = vs.length := by have := hv.rds.length; have := hp.len; omega
  have ho : off < cs.length := (List.getElem?_eq_some_iff.1 hc0).1
  refine bL ff78 fi78 ?_
  simp only [UK, Try.f78, Option.getD_some, List.replicate, aC, hkr, execOp, opd, bG, aD, put, nth, aL, aE, ended, aT, aU, Nat.reduceAdd, Nat.reduceSub, gL, gB, gI]
  refine bF hf (f103 o x off cs v t st tv cnt xs vs D h n hr hc0 hc1 (by omega) hv.rds (fun j hj => hv.live hf hj) hp (fun j hj => (hD j hj).1) ht hmono hf) fun v1 h1 n1 hn1 f1 ⟨p, hP, e1, o1⟩ => ?_
  subst e1
  have hr1 := hr.aX (o1 x hx)
  have hv1 := hv.aX (h' := h1) (fun j hj => o1 j (hv.live hf hj))
  simp only [aC, tyr, fgr, execOp, opd, aD, put, nth, aB, und, sizeOf, nilCheck, extract, aZ, aS, fieldAddr, gL, gI]
  rw [aM (hr1.one hc0 pZ rfl)]
  simp only [aC, tyr, hkr, execOp, opd, bG, dE, aD, put, nth, aL, aE, newRow, bs95 (.ptr t 0) ⟨rfl, rfl, rfl⟩, gL]
  obtain ⟨H2, hH2⟩ : ∃ H2, H2 = upd h1 n1 (some (Blk.row (bQ.l [a9.ptr t 0]) 128)) := ⟨_, rfl⟩
  have f2 : bO H2 (n1 + 1) := by rw [hH2]; exact f1.new
  have o2 : ∀ j, j ≠ n1 → H2 j = h1 j := fun j hj => by rw [hH2, aP _ _ hj]
  have r2 : H2 n1 = some (Blk.row (bQ.l [a9.ptr t 0]) 128) := by rw [hH2, aW]
  rw [← hH2]
  clear hH2
  have hv2 := hv1.aX (h' := H2) (fun j hj => o2 j (by have := hv.live hf hj; omega))
  have hvn : ∀ j, bB v = some j → j < n := fun j hj => hv.live hf hj
  refine bF f2 (QB hv2 r2 rfl (by have := hP.le; omega) (by omega) hp.cells (fun e => by have := hvn _ e; omega) f2) fun v3 h3 n3 hn3 f3 ⟨e3, e3n, r3, o3⟩ => ?_
  subst e3; subst e3n
  obtain ⟨ex, hx3⟩ := hr1.aX (h' := h3) ((o3 x (by omega) hxv).trans (o2 x (by omega)))
  have hil : (fW xs p (a9.ptr t 0)).length = cnt + 1 := by rw [jC, hp.len, hcl]
  simp only [aC, tyr, execOp, opd, aD, put, nth, und, sizeOf, nilCheck, aZ, aS, fieldAddr, gL, gI]
  rw [dR (Row.write (v := .sl (n1 + 1) 0 (cnt + 1) none 1) hx3 pZ rfl (by show off + 1 ≤ _; omega) rfl)]
  simp only [aC, fgr, aD, aB, cel, true_and]
  refine ⟨p, n1 + 1, hP, by omega, by omega, .sl _ _ _ _ ((aP _ _ (by omega)).trans r3) (by omega) (by omega) (by rw [← hil, List.take_length]), Row.new _ _ _ _, fun j hj hjx hjv => ?_⟩
  rw [aP _ _ hjx, o3 j (by omega) hjv, o2 j (by omega), o1 j hj]
def iL {α : Type} (l : List α) (k : Nat) : List α := l.take k ++ l.drop (k + 1)
theorem oY {α : Type} {l : List α} {k : Nat} (h : k < l.length) : (iL l k).length = l.length - 1 := by
  unfold iL
  rw [List.length_append, List.length_take, List.length_drop]; omega
theorem sl3 {id len i j : Nat} {z1 z2 z3 : Int} (e1 : z1 = (i : Nat)) (e2 : z2 = (j : Nat)) (e3 : z3 = (len : Nat)) (h1 : i ≤ j) (h2 : j ≤ len) {h' : Hp} {n' : Nat} :
    Rd (slice env 95 (.sl id 0 len none 1) (some (.int .i64 z1)) (some (.int .i64 z2)) (some (.int .i64 z3))) h' n' [] (.sl id i (j - i) (some (len - i)) 1) := by
  subst e1; subst e2; subst e3
  simp only [slice, u95, pX, bind_pure, bound, cW, bind_assoc, bR, Option.getD_none, Int.toNat_natCast, Nat.zero_add, Nat.mul_one]
  exact Rd.bind (i2 := []) (Rd.ob (decide_eq_true ⟨by omega, by omega⟩)) (Rd.bind (i2 := []) (Rd.ob (decide_eq_true ⟨by omega, by omega⟩)) (Rd.bind (i2 := []) (Rd.ob (decide_eq_true ⟨by omega, by omega⟩)) (Rd.pure _)))
theorem slh {id len k : Nat} {z : Int} (hz : z = (k : Nat)) (hk : k ≤ len) {h' : Hp} {n' : Nat} : Rd (slice env 95 (.sl id 0 len none 1) none (some (.int .i64 z)) none) h' n' [] (.sl id 0 k none 1) := by
  subst hz
  have hle : (decide (((k : Nat) : Int) ≤ ((len : Nat) : Int))) = true := decide_eq_true (by omega)
  simp only [slice, kK, hle, u95, pX, bind_pure, bound, cW, bind_assoc, bR, Nat.zero_mul, Nat.add_zero, Nat.sub_zero, Int.toNat_natCast]
  exact Rd.bind (i2 := []) (Rd.ob (decide_eq_true ⟨by omega, by omega⟩)) (Rd.pure _)
theorem sll {id len k : Nat} {z : Int} (hz : z = (k : Nat)) (hk : k ≤ len) {h' : Hp} {n' : Nat} : Rd (slice env 95 (.sl id 0 len none 1) (some (.int .i64 z)) none none) h' n' [] (.sl id k (len - k) none 1) := by
  subst hz
  simp only [slice, kK, u95, pX, bind_pure, bound, cW, bind_assoc, bR, Nat.zero_add, Nat.mul_one, Int.toNat_natCast]
  exact Rd.bind (i2 := []) (Rd.ob (decide_eq_true ⟨by omega, by omega⟩)) (Rd.pure _)
theorem slb {id len hi : Nat} {z1 z2 : Int} {cells : List a9} {e : TypeId} (e1 : z1 = (len : Nat)) (e2 : z2 = (hi : Nat)) (h1 : len < hi) (h2 : hi ≤ cells.length) {h' : Hp} {n' : Nat} (hh : h' id = some (.row (.l cells) e)) :
    Rd (slice env 95 (.sl id 0 len none 1) (some (.int .i64 z1)) (some (.int .i64 z2)) none) h' n' [id] (.sl id len (hi - len) none 1) := by
  subst e1; subst e2
  have hle : (decide (((hi : Nat) : Int) ≤ ((len : Nat) : Int))) = false := decide_eq_false (by omega)
  simp only [slice, kK, hle, u95, pX, bind_pure, bound, cW, bind_assoc, bR, Nat.zero_add, Nat.mul_one, Int.toNat_natCast]
  refine Rd.bind (i1 := [id]) (i2 := []) (Rd.get hh) ?_
  simp only [cX, bind_pure, bQ.size, Nat.sub_zero, Nat.div_one]
  exact Rd.bind (i2 := []) (Rd.ob (decide_eq_true ⟨by omega, by omega⟩)) (Rd.bind (i2 := []) (Rd.ob (decide_eq_true ⟨by omega, by omega⟩)) (Rd.pure _))
theorem clr {id off : Nat} {cells : List a9} {e : TypeId} {h : Hp} {n : Nat} (hh : h id = some (.row (.l cells) e)) (ho : off + 1 ≤ cells.length) :
    Wp (pD env [95] (.sl id off 1 none 1)) h n fun v' h' n' => h' = upd h id (some (.row (.l (cB cells off [.eZ])) e)) ∧ n' = n := by
  have hb : (off + 1).ble cells.length = true := dC ho
  simp only [pD, u95, bind_pure, gM, show (Nat.beq 1 0) = false from rfl, iV, bR, fQ, List.append_nil, a9.cells, dX, bind_assoc, fI, hh, Option.some.injEq, exists_eq_left', cX, eY, bQ.size, List.length_singleton, hb, List.all_cons, List.all_nil, bN, Bool.and_true, true_and, l8, wp_pure]
  rw [mN _ _ _ (by simpa using ho)]
  exact ⟨by simp, rfl, trivial⟩
theorem f105 (id cnt i : Nat) (cells xs : List a9) (h : Hp) (n : Nat) (hh : h id = some (.row (.l cells) 128)) (hl : cnt ≤ cells.length) (hx : cells.take cnt = xs) (hi : i < cnt) (hc : cnt ≤ 10000000) (h1 : xs.all bN = true) (hf : bO h n) :
    Wp (bD env (evalW env) 105 [.sl id 0 cnt none 1, .int .i64 (i : Nat), .int .i64 (i + 1 : Nat)]) h n fun v' h' n' => v' = .sl id 0 (cnt - 1) none 1 ∧ n' = n ∧ ∃ cells', cells'.length = cells.length ∧ cells'.take (cnt - 1) = iL xs i ∧ h' id = some (.row (.l cells') 128) ∧ ∀ j, j ≠ id → h' j = h j := by
  have hxl : xs.length = cnt := by rw [← hx, List.length_take]; omega
  have hin : id < n := by
    by_cases q : id < n
    · exact q
    · rw [hf id (by omega)] at hh; cases hh
  refine bL ab2 ZA ?_
  simp only [KZ, Try.f105, Option.getD_some, List.replicate, aC, fgr, execOp, opd, bG, opt, ofValue, aD, put, nth, aB, aL, builtin, dH, blr, ended, aT, aU, Nat.reduceAdd, Nat.reduceSub, gL, gI]
  rw [aM (sl3 rfl rfl rfl (by omega) (by omega))]
  have ei : (((i : Nat) : Int) = ((i + 1 : Nat) : Int)) = False := by simp; omega
  simp only [aC, fgr, execOp, opd, bG, aD, put, nth, aB, aL, builtin, dH, blr, bor, aJ, aK, intOp, ei, gB, gI]
  refine cG ⟨rfl, ?_⟩
  simp only [aF, aI, execOp, opd, opt, aD, put, nth, Nat.reduceAdd, gI]
  rw [bP (slh rfl (by omega))]
  simp only [aF, aI, execOp, opd, opt, aD, put, nth, Nat.reduceAdd]
  rw [bP (sll rfl (by omega))]
  simp only [aF, execOp, opd, bG, aD, put, nth, aL, builtin, fC, Nat.reduceAdd]
  have hsub : Rds h 1 (.sl id (i + 1) (cnt - (i + 1)) none 1) (cnt - (i + 1)) (xs.drop (i + 1)) := .sl id (i + 1) _ none (.l cells) 128 _ hh (by rw [List.length_drop, hxl]; omega) (by rw [List.length_drop, hxl]; show i + 1 + _ ≤ cells.length; omega) (fun j hj => by
    rw [List.length_drop, hxl] at hj
    subst hx
    rw [bQ.tM (by omega), List.getElem_drop, List.getElem_take])
  have hone : (xs.drop (i + 1)).all bN = true := by
    rw [List.all_eq_true] at h1 ⊢
    exact fun x hx => h1 x (List.mem_of_mem_drop hx)
  have hdl : (xs.drop (i + 1)).length = cnt - (i + 1) := by rw [List.length_drop, hxl]
  refine eF hf (zE (i := ⟨.pointer 31, 1, 8, .eZ⟩) (e := 128) (cap := none) (Q1 := fun v' h' n' => v' = .sl id 0 (cnt - 1) none 1 ∧ n' = n ∧ h' = upd h id (some (.row (.l (cB cells i (xs.drop (i + 1)))) 128))) hh hsub u95 u95 iV hone (by decide) (by show (i + (cnt - (i + 1))) * 1 ≤ _; omega) (fun m hm => by cases hm) ?_) fun v5 h5 n5 r5 w5 hn5 f5 ⟨e1, e2, e3⟩ => ?_
  · refine ⟨by rw [show i + (cnt - (i + 1)) = cnt - 1 by omega], rfl, ?_⟩
    rw [Nat.mul_one]
  subst e1; subst e2; subst e3
  simp only [bY, aF, aI, aC, fgr, execOp, opd, bG, opt, aD, put, nth, aB, aL, builtin, dH, blr, Nat.reduceAdd]
  refine ⟨(by (try simp (disch := first | assumption | omega) only [dF, List.all_cons, List.all_nil, gB, gF]); repeat' (first | rfl | exact (Bool.or_eq_true _ _).mpr (.inr rfl) | refine (Bool.and_eq_true _ _).mpr ⟨?_, ?_⟩)), ?_⟩
  have hsl : (cB cells i (xs.drop (i + 1))).length = cells.length := fJ (by rw [hdl]; omega)
  rw [aM (slb rfl rfl (by omega) (by rw [hsl]; omega) (aW _ _ _))]
  simp only [aC, execOp, opd, bG, aD, put, nth, aL, builtin, dH]
  rw [show cnt - (cnt - 1) = 1 by omega]
  refine wp_mono (clr (aW _ _ _) (by rw [hsl]; omega)) fun v6 h6 n6 ⟨e1, e2⟩ => ?_
  subst e1; subst e2
  simp only [aC, fgr, execOp, opd, aD, put, nth, aB, gB]
  refine ⟨_, ?_, ?_, aW _ _ _, fun j hj => by rw [aP _ _ hj, aP _ _ hj]⟩
  · rw [fJ (by rw [hsl]; simp; omega), hsl]
  · have a1 : (cB (cB cells i (xs.drop (i + 1))) (cnt - 1) [a9.eZ]).take (cnt - 1) = (cB cells i (xs.drop (i + 1))).take (cnt - 1) := by
      unfold cB
      rw [List.take_append_of_le_length (by rw [List.length_take]; simp only [List.length_append, List.length_take, List.length_drop]; omega), List.take_take, Nat.min_self]
    have a2 := oE (xs := cells) (ys := xs.drop (i + 1)) (a := i) (by rw [hdl]; omega)
    rw [hdl, show i + (cnt - (i + 1)) = cnt - 1 by omega] at a2
    rw [a1, a2]
    unfold iL
    rw [← hx, List.take_take, Nat.min_eq_left (by omega)]
theorem f79 (o : Bool) (x off : Nat) (cs : List a9) (v : a9) (t : Nat) (st : a9) (tv : Ver) (cnt : Nat) (xs : List a9) (vs : List Ver) (D : Nat → Prop) (h : Hp) (n : Nat) (hr : Row h x cs) (hc0 : cs[off]? = some v) (hc1 : cs[off + 1]? = some (fo o)) (hc : cnt ≤ 10000000) (hv : Lp h v cnt xs) (hp : Ps h D xs vs) (hD : ∀ j, D j → j < n ∧ bB v ≠ some j) (ht : AtN h n t st tv)
    (hmono : HX o vs tv) (hin : ∃ w ∈ vs, ¬ iE o w tv < 0) (hx : x < n) (hxv : bB v ≠ some x) (hf : bO h n) :
    Wp (bD env (evalW env) 79 [.ptr x off, .ptr t 0]) h n fun v' h' n' => v' = .tup [] ∧ ∃ p id, Pos o vs tv p ∧ p < cnt ∧ bB v = some id ∧ Lp h' (.sl id 0 (cnt - 1) none 1) (cnt - 1) (iL xs p) ∧ Row h' x (cB cs off [.sl id 0 (cnt - 1) none 1]) ∧ ∀ j, j < n → j ≠ x → bB v ≠ some j → h' j = h j := by
  have hcl : cnt = vs.length := by have := hv.rds.length; have := hp.len; omega
  have ho : off < cs.length := (List.getElem?_eq_some_iff.1 hc0).1
  refine bL ff79 fi79 ?_
  simp only [UJ, Try.f79, Option.getD_some, List.replicate, aC, hkr, execOp, opd, bG, aD, put, nth, aL, aE, ended, aT, aU, Nat.reduceAdd, Nat.reduceSub, gL, gB, gI]
  refine bF hf (f103 o x off cs v t st tv cnt xs vs D h n hr hc0 hc1 (by omega) hv.rds (fun j hj => hv.live hf hj) hp (fun j hj => (hD j hj).1) ht hmono hf) fun v1 h1 n1 hn1 f1 ⟨p, hP, e1, o1⟩ => ?_
  subst e1
  have hpc : p < cnt := by
    obtain ⟨w, hw, hwt⟩ := hin
    obtain ⟨k, hk, rfl⟩ := List.mem_iff_getElem.1 hw
    by_cases q : p < cnt
    · exact q
    · exact absurd (hP.lo k hk (by omega)) hwt
  have hr1 := hr.aX (o1 x hx)
  have hv1 := hv.aX (h' := h1) (fun j hj => o1 j (hv.live hf hj))
  have hvn : ∀ j, bB v = some j → j < n := fun j hj => hv.live hf hj
  have hxo := hp.cells
  cases hv1 with
  | nil => omega
  | zero id off c hh hs => omega
  | sl id cnt cells xs hh h0 hl hxx =>
  have w1 : IntKind.i64.wrap (((p : Nat) : Int) + 1) = ((p + 1 : Nat) : Int) := by rw [w64 (by omega) (by omega)]; omega
  simp only [aC, tyr, fgr, execOp, opd, aD, put, nth, aB, und, sizeOf, nilCheck, extract, aZ, aS, fieldAddr, gL, gI]
  rw [aM (hr1.one hc0 pZ rfl)]
  simp only [aC, hkr, execOp, opd, bG, ofValue, aD, put, nth, aL, aE, bor, aJ, aK, intOp, bU, w1, gL, gB]
  refine bF f1 (f105 id cnt p cells xs h1 n1 hh hl hxx hpc hc hxo f1) fun v3 h3 n3 hn3 f3 ⟨e3, e3n, cells', l3, t3, r3, o3⟩ => ?_
  subst e3; subst e3n
  have hxid : x ≠ id := fun e => hxv (by rw [e]; rfl)
  obtain ⟨ex, hx3⟩ := hr1.aX (h' := h3) (o3 x hxid)
  simp only [aC, tyr, execOp, opd, aD, put, nth, und, sizeOf, nilCheck, aZ, aS, fieldAddr, gL, gI]
  rw [dR (Row.write (v := .sl id 0 (cnt - 1) none 1) hx3 pZ rfl (by show off + 1 ≤ _; omega) rfl)]
  simp only [aC, fgr, aD, aB, cel, true_and]
  refine ⟨p, id, hP, hpc, rfl, .sl _ _ _ _ ((aP _ _ (fun e => hxid e.symm)).trans r3) (by omega) (by omega) t3, Row.new _ _ _ _, fun j hj hjx hjv => ?_⟩
  rw [aP _ _ hjx, o3 j (fun e => hjv (by rw [e]; rfl)), o1 j hj]
structure pF {α : Type} (c : α → α → Int) : Prop where
  refl : ∀ a, c a a = 0
  sO : ∀ a b, c b a = - c a b
  lt : ∀ a b d, c a b < 0 → c b d < 0 → c a d < 0
  eqv : ∀ a b d, c a b = 0 → c a d = c b d
theorem sJ {a b : Int} : kM a b < 0 ↔ a < b := by unfold kM; split <;> (try split) <;> omega
theorem sK {a b : Int} : kM a b = 0 ↔ a = b := by unfold kM; split <;> (try split) <;> omega
theorem vK : pF kM where
  refl := fun a => sK.2 rfl
  sO := fun a b => by unfold kM; split <;> (try split) <;> (try split) <;> (try split) <;> omega
  lt := fun a b d h1 h2 => by rw [sJ] at *; omega
  eqv := fun a b d h => by rw [sK.1 h]
theorem pT : ∀ a : List UInt8, Lib.compareBytes a a = 0
  | [] => rfl
  | x :: a => by
    simp only [Lib.compareBytes, UInt8.lt_irrefl]
    exact pT a
theorem FQ : ∀ a b : List UInt8, Lib.compareBytes b a = - Lib.compareBytes a b
  | [], [] => rfl
  | [], _ :: _ => rfl
  | _ :: _, [] => rfl
  | x :: a, y :: b => by
    simp only [Lib.compareBytes]
    by_cases h1 : x < y
    · have h2 : ¬ y < x := fun h => by rw [UInt8.lt_iff_toNat_lt] at *; omega
      rw [if_pos h1, if_neg h2, if_pos h1]; rfl
    · by_cases h2 : y < x
      · rw [if_pos h2, if_neg h1, if_pos h2]
      · rw [if_neg h1, if_neg h2, if_neg h2, if_neg h1]; exact FQ a b
theorem FP : ∀ a b : List UInt8, Lib.compareBytes a b = 0 → a = b
  | [], [], _ => rfl
  | [], _ :: _, h => by simp [Lib.compareBytes] at h
  | _ :: _, [], h => by simp [Lib.compareBytes] at h
  | x :: a, y :: b, h => by
    simp only [Lib.compareBytes] at h
    by_cases h1 : x < y
    · rw [if_pos h1] at h; omega
    · rw [if_neg h1] at h
      by_cases h2 : y < x
      · rw [if_pos h2] at h; omega
      · rw [if_neg h2] at h
        have e : x = y := by
          apply UInt8.toNat_inj.1
          rw [UInt8.lt_iff_toNat_lt] at *; omega
        rw [e, FP a b h]
theorem Q6 : ∀ a b d : List UInt8, Lib.compareBytes a b < 0 → Lib.compareBytes b d < 0 → Lib.compareBytes a d < 0
  | [], [], d, h, _ => by simp [Lib.compareBytes] at h
  | [], _ :: _, [], _, h => by simp [Lib.compareBytes] at h
  | [], _ :: _, _ :: _, _, _ => by simp [Lib.compareBytes]
  | _ :: _, [], _, h, _ => by simp [Lib.compareBytes] at h
  | _ :: _, _ :: _, [], _, h => by simp [Lib.compareBytes] at h
  | x :: a, y :: b, z :: d, h1, h2 => by
    simp only [Lib.compareBytes] at *
    by_cases p : x < y
    · by_cases q : y < z
      · rw [if_pos (by rw [UInt8.lt_iff_toNat_lt] at *; omega)]; decide
      · by_cases q2 : z < y
        · rw [if_neg q, if_pos q2] at h2; omega
        · rw [if_pos (by rw [UInt8.lt_iff_toNat_lt] at *; omega)]; decide
    · by_cases p2 : y < x
      · rw [if_neg p, if_pos p2] at h1; omega
      · rw [if_neg p, if_neg p2] at h1
        by_cases q : y < z
        · rw [if_pos (by rw [UInt8.lt_iff_toNat_lt] at *; omega)]; decide
        · by_cases q2 : z < y
          · rw [if_neg q, if_pos q2] at h2; omega
          · rw [if_neg q, if_neg q2] at h2
            rw [if_neg (by rw [UInt8.lt_iff_toNat_lt] at *; omega), if_neg (by rw [UInt8.lt_iff_toNat_lt] at *; omega)]
            exact Q6 a b d h1 h2
theorem pK : pF Lib.compareBytes := ⟨pT, FQ, Q6, fun a b d h => by rw [FP a b h]⟩
theorem pF.or {α : Type} {c1 c2 : α → α → Int} (a1 : pF c1) (a2 : pF c2) : pF (fun a b => orI (c1 a b) (c2 a b)) where
  refl := fun a => by simp [orI, a1.refl, a2.refl]
  sO := fun a b => by
    have h1 := a1.sO a b
    have h2 := a2.sO a b
    simp only [orI]
    by_cases h : c1 a b = 0
    · rw [if_pos (by omega), if_pos h, h2]
    · rw [if_neg (by omega), if_neg h, h1]
  lt := fun a b d h1 h2 => by
    simp only [orI] at *
    by_cases e1 : c1 a b = 0
    · rw [if_pos e1] at h1
      rw [a1.eqv a b d e1]
      by_cases e2 : c1 b d = 0
      · rw [if_pos e2] at h2 ⊢
        exact a2.lt a b d h1 h2
      · rw [if_neg e2] at h2 ⊢
        exact h2
    · rw [if_neg e1] at h1
      by_cases e2 : c1 b d = 0
      · have e3 : c1 d a = c1 b a := by
          have := a1.eqv b d a e2
          exact this.symm
        have e4 := a1.sO d a
        have e5 := a1.sO b a
        rw [if_neg (by omega)]; omega
      · rw [if_neg e2] at h2
        have := a1.lt a b d h1 h2
        rw [if_neg (by omega)]; exact this
  eqv := fun a b d h => by
    simp only [orI] at *
    by_cases e1 : c1 a b = 0
    · rw [if_pos e1] at h
      rw [a1.eqv a b d e1, a2.eqv a b d h]
    · rw [if_neg e1] at h; exact absurd h e1
theorem pF.on {α β : Type} {c : β → β → Int} (o : pF c) (f : α → β) : pF (fun a b => c (f a) (f b)) := ⟨fun a => o.refl _, fun a b => o.sO _ _, fun a b d => o.lt _ _ _, fun a b d => o.eqv _ _ _⟩
theorem oL : pF fM := ((pK.on Ver.hash).or (vK.on Ver.pn)).or (vK.on Ver.made)
theorem RR : pF E3 := (pK.on Ver.aR).or oL
theorem zR (o : Bool) : pF (iE o) := by cases o; exact oL; exact RR
theorem pF.eqr {α : Type} {c : α → α → Int} (o : pF c) {a b d : α} (h : c a b = 0) : c d a = c d b := by
  have h1 := o.eqv a b d h
  have h2 := o.sO a d
  have h3 := o.sO b d
  omega
def dM (o : Bool) (vs : List Ver) : Prop := vs.Pairwise fun a b => iE o a b < 0
theorem dM.at_ {o : Bool} {vs : List Ver} (r : dM o vs) {i j : Nat} (hi : i < vs.length) (hj : j < vs.length) (h : i < j) : iE o vs[i] vs[j] < 0 := List.pairwise_iff_getElem.1 r i j hi hj h
theorem dM.mono {o : Bool} {vs : List Ver} (r : dM o vs) (t : Ver) : HX o vs t := fun a b ha hb hab h => (zR o).lt _ _ _ (r.at_ ha hb hab) h
theorem BF {o : Bool} {vs : List Ver} {t : Ver} {p : Nat} (r : dM o vs) (hp : Pos o vs t p) : uE o vs t p = true ↔ ∃ w ∈ vs, iE o w t = 0 := by
  unfold uE
  constructor
  · intro h
    cases e : vs[p]? with
    | none => rw [e] at h; cases h
    | some w =>
      rw [e] at h
      exact ⟨w, List.mem_of_getElem? e, of_decide_eq_true h⟩
  · rintro ⟨w, hw, he⟩
    obtain ⟨k, hk, rfl⟩ := List.mem_iff_getElem.1 hw
    have h1 : ¬ k < p := fun h => by have := hp.lo k hk h; omega
    have h2 : ¬ p < k := fun h => by
      have hpl : p < vs.length := by omega
      have := r.at_ hpl hk h
      rw [(zR o).eqr he] at this
      exact hp.hi p hpl (Nat.le_refl _) this
    have : k = p := by omega
    subst this
    rw [List.getElem?_eq_getElem hk]
    exact decide_eq_true he
theorem BG {α : Type} {l : List α} {k : Nat} {v w : α} : w ∈ fW l k v ↔ w = v ∨ w ∈ l := by
  unfold fW
  rw [List.mem_append, List.mem_cons]
  constructor
  · rintro (h | h | h)
    · exact .inr (List.mem_of_mem_take h)
    · exact .inl h
    · exact .inr (List.mem_of_mem_drop h)
  · rintro (h | h)
    · exact .inr (.inl h)
    · rw [← List.take_append_drop k l, List.mem_append] at h
      exact h.elim .inl fun h => .inr (.inr h)
theorem tE {α : Type} (l : List α) (k : Nat) (v : α) : (fW l k v).Perm (v :: l) := by
  unfold fW
  have h := @List.perm_middle α v (l.take k) (l.drop k)
  rwa [List.take_append_drop] at h
theorem jU {α : Type} {l : List α} {k : Nat} (h : k < l.length) : l.Perm (l[k] :: iL l k) := by
  unfold iL
  have h1 : l = l.take k ++ l[k] :: l.drop (k + 1) := by
    rw [List.getElem_cons_drop, List.take_append_drop]
  have h2 := @List.perm_middle α l[k] (l.take k) (l.drop (k + 1))
  exact (List.Perm.of_eq h1).trans h2
theorem tD {o : Bool} {vs : List Ver} {t : Ver} {p : Nat} (r : dM o vs) (hp : Pos o vs t p) (hn : ∀ w ∈ vs, iE o w t ≠ 0) : dM o (fW vs p t) := by
  unfold fW dM
  have r' := r
  rw [dM, ← List.take_append_drop p vs, List.pairwise_append] at r'
  obtain ⟨r1, r2, r3⟩ := r'
  rw [List.pairwise_append, List.pairwise_cons]
  have hlo : ∀ a ∈ vs.take p, iE o a t < 0 := fun a ha => by
    obtain ⟨k, hk, rfl⟩ := List.mem_iff_getElem.1 ha
    rw [List.length_take] at hk
    rw [List.getElem_take]
    exact hp.lo k (by omega) (by omega)
  have hhi : ∀ a ∈ vs.drop p, iE o t a < 0 := fun a ha => by
    obtain ⟨k, hk, rfl⟩ := List.mem_iff_getElem.1 ha
    rw [List.length_drop] at hk
    rw [List.getElem_drop]
    have h1 := hp.hi (p + k) (by omega) (by omega)
    have h2 := hn _ (List.getElem_mem (show p + k < vs.length by omega))
    have h3 := (zR o).sO vs[p + k] t
    omega
  refine ⟨r1, ⟨hhi, r2⟩, fun a ha b hb => ?_⟩
  rcases List.mem_cons.1 hb with rfl | hb
  · exact hlo a ha
  · exact r3 a ha b hb
theorem pR {o : Bool} {vs : List Ver} (r : dM o vs) (p : Nat) : dM o (iL vs p) := by
  refine List.Pairwise.sublist ?_ r
  unfold iL
  conv => rhs; rw [← List.take_append_drop p vs]
  exact List.Sublist.append (List.Sublist.refl _) (List.drop_sublist_drop_left _ (by omega))
theorem Ps.ins {h : Hp} {D : Nat → Prop} {xs : List a9} {vs : List Ver} (p : Ps h D xs vs) {t : Nat} {st : a9} {tv : Ver} (a : At h t st tv) (d1 : D t) (d2 : ∀ j, bB st = some j → D j) (k : Nat) : Ps h D (fW xs k (.ptr t 0)) (fW vs k tv) := by
  have hl := p.len
  refine ⟨by rw [jC, jC, hl], fun j x v hx hv => ?_⟩
  unfold fW at hx hv
  by_cases c : j < (xs.take k).length
  · have c2 : j < (vs.take k).length := by rw [List.length_take] at *; omega
    rw [List.getElem?_append_left c, List.getElem?_take] at hx
    rw [List.getElem?_append_left c2, List.getElem?_take] at hv
    split at hx
    · rename_i q
      rw [if_pos q] at hv
      exact p.at_ j x v hx hv
    · cases hx
  · have e1 : (xs.take k).length = (vs.take k).length := by rw [List.length_take, List.length_take, hl]
    rw [List.getElem?_append_right (by omega)] at hx
    rw [List.getElem?_append_right (by omega), ← e1] at hv
    cases hc : j - (xs.take k).length with
    | zero =>
      rw [hc] at hx hv
      injection hx with hx
      injection hv with hv
      subst hx; subst hv
      exact ⟨t, st, rfl, a, d1, d2⟩
    | succ m =>
      rw [hc] at hx hv
      rw [List.getElem?_cons_succ, List.getElem?_drop] at hx hv
      exact p.at_ _ x v hx hv
theorem Ps.del {h : Hp} {D : Nat → Prop} {xs : List a9} {vs : List Ver} (p : Ps h D xs vs) (k : Nat) : Ps h D (iL xs k) (iL vs k) := by
  have hl := p.len
  have e1 : (xs.take k).length = (vs.take k).length := by rw [List.length_take, List.length_take, hl]
  refine ⟨by unfold iL; rw [List.length_append, List.length_append, e1, List.length_drop, List.length_drop, hl], fun j x v hx hv => ?_⟩
  unfold iL at hx hv
  by_cases c : j < (xs.take k).length
  · rw [List.getElem?_append_left c, List.getElem?_take] at hx
    rw [List.getElem?_append_left (by omega), List.getElem?_take] at hv
    split at hx
    · rename_i q
      rw [if_pos q] at hv
      exact p.at_ j x v hx hv
    · cases hx
  · rw [List.getElem?_append_right (by omega), List.getElem?_drop] at hx
    rw [List.getElem?_append_right (by omega), ← e1, List.getElem?_drop] at hv
    exact p.at_ _ x v hx hv
structure IxV (h : Hp) (n : Nat) (D : Nat → Prop) (x : Nat) (vl vs : a9) (xl xs : List a9) (L S : List Ver) : Prop where
  row : Row h x [.bool true, vl, fo false, vs, fo true]
  l : Lp h vl L.length xl
  lp : Ps h D xl L
  s : Lp h vs S.length xs
  sp : Ps h D xs S
  xn : x < n
  dn : ∀ j, D j → j < n
  xd : ¬ D x
  vlx : ∀ j, bB vl = some j → j ≠ x ∧ ¬ D j
  vsx : ∀ j, bB vs = some j → j ≠ x ∧ ¬ D j ∧ bB vl ≠ some j
def IxS (h : Hp) (n : Nat) (D M : Nat → Prop) (x : Nat) (L S : List Ver) : Prop :=
  ∃ vl vs xl xs, IxV h n D x vl vs xl xs L S ∧ M x ∧ (∀ j, bB vl = some j → M j) ∧ (∀ j, bB vs = some j → M j) ∧ ∀ j, M j → j < n ∧ ¬ D j
structure Ch2 (h : Hp) (n : Nat) (M : Nat → Prop) (h' : Hp) (n' : Nat) (M' : Nat → Prop) : Prop where
  nx : n ≤ n'
  fr : bO h' n'
  m' : ∀ j, M' j → M j ∨ n ≤ j
  old : ∀ j, j < n → ¬ M j → h' j = h j
theorem Ch2.trans {h h1 h2 : Hp} {n n1 n2 : Nat} {M M1 M2 : Nat → Prop} (a : Ch2 h n M h1 n1 M1) (b : Ch2 h1 n1 M1 h2 n2 M2) : Ch2 h n M h2 n2 M2 where
  nx := Nat.le_trans a.nx b.nx
  fr := b.fr
  m' := fun j hj => (b.m' j hj).elim (a.m' j) (fun q => .inr (Nat.le_trans a.nx q))
  old := fun j hj hm => by
    rw [b.old j (by have := a.nx; omega) (fun q => by
      rcases a.m' j q with q | q
      · exact hm q
      · omega)]
    exact a.old j hj hm
theorem Ch2.of {h h' : Hp} {n n' : Nat} {M : Nat → Prop} (hf : bO h' n') (hn : n ≤ n') (ho : Old h h' n) : Ch2 h n M h' n' M := ⟨hn, hf, fun _ h => .inl h, fun j hj _ => ho j hj⟩
theorem IxS.beside {h h' : Hp} {n n' : Nat} {D M : Nat → Prop} {x : Nat} {L S : List Ver} (s : IxS h n D M x L S) (hn : n ≤ n') (ho : ∀ j, j < n → (D j ∨ M j) → h' j = h j) : IxS h' n' D M x L S := by
  obtain ⟨vl, vs, xl, xs, sv, mx, ml, ms, mn⟩ := s
  refine ⟨vl, vs, xl, xs, ⟨sv.row.aX (ho x sv.xn (.inr mx)), sv.l.aX (fun j q => ho j (mn j (ml j q)).1 (.inr (ml j q))), sv.lp.mono (fun j q => q) (fun j q => ho j (sv.dn j q) (.inl q)), sv.s.aX (fun j q => ho j (mn j (ms j q)).1 (.inr (ms j q))), sv.sp.mono (fun j q => q) (fun j q => ho j (sv.dn j q) (.inl q)), by have := sv.xn; omega, fun j q => by have := sv.dn j q; omega, sv.xd, sv.vlx, sv.vsx⟩, mx, ml, ms, fun j q => ⟨by have := (mn j q).1; omega, (mn j q).2⟩⟩
theorem IxS.old {h h' : Hp} {n n' : Nat} {D M : Nat → Prop} {x : Nat} {L S : List Ver} (s : IxS h n D M x L S) (hn : n ≤ n') (ho : Old h h' n) : IxS h' n' D M x L S := s.beside hn fun j hj _ => ho j hj
theorem uJ {m : M a9} {h : Hp} {n : Nat} {Q Q' : a9 → Hp → Nat → Prop} (hf : bO h n) (hw : Wp m h n Q) (hq : ∀ v h' n', n ≤ n' → bO h' n' → Q v h' n' → Q' v h' n') : Wp m h n Q' :=
  wp_mono (hw.free hf) fun v h' n' hh => hq v h' n' hh.2.1 hh.2.2 hh.1
theorem XZ (x t : Nat) (st : a9) (tv : Ver) (L S : List Ver) (D M : Nat → Prop) (h : Hp) (n : Nat) (hs : IxS h n D M x L S) (ht : AtN h n t st tv) (htm : ¬ M t) (hsm : ∀ j, bB st = some j → ¬ M j) (hr : dM false L) (hc : L.length ≤ 1000000) (hf : bO h n) :
    Wp (bD env (evalW env) 78 [.ptr x 1, .ptr t 0]) h n fun v' h' n' => v' = .tup [] ∧ ∃ p M', Pos false L tv p ∧ IxS h' n' (fun j => D j ∨ j = t ∨ bB st = some j) M' x (fW L p tv) S ∧ Ch2 h n M h' n' M' := by
  obtain ⟨vl, vs, xl, xs, sv, mx, ml, ms, mn⟩ := hs
  refine uJ hf (f78 false x 1 _ vl t st tv L.length xl L D h n sv.row rfl rfl (by omega) sv.l sv.lp (fun j hj => ⟨sv.dn j hj, fun q => (sv.vlx j q).2 hj⟩) ht (hr.mono tv) sv.xn (fun q => (sv.vlx x q).1 rfl) hf) fun v' h' n' hn' f' ⟨e, p, m, hp, hm1, hm2, l', r', o'⟩ => ?_
  have hil : (fW L p tv).length = L.length + 1 := jC _ _ _
  have keepD : ∀ j, (D j ∨ j = t ∨ bB st = some j) → h' j = h j := fun j q => by
    rcases q with q | q | q
    · exact o' j (sv.dn j q) (fun e => sv.xd (by rw [← e]; exact q)) (fun e => (sv.vlx j e).2 q)
    · subst q; exact o' _ ht.idn (fun e => htm (by rw [e]; exact mx)) (fun e => htm (ml _ e))
    · exact o' j (ht.sn j q) (fun e => hsm j q (by rw [e]; exact mx)) (fun e => hsm j q (ml j e))
  have hne : ∀ j, (D j ∨ j = t ∨ bB st = some j) → j < n ∧ j ≠ x ∧ bB vs ≠ some j := fun j q => by
    rcases q with q | q | q
    · exact ⟨sv.dn j q, fun e => sv.xd (by rw [← e]; exact q), fun e => (sv.vsx j e).2.1 q⟩
    · subst q; exact ⟨ht.idn, fun e => htm (by rw [e]; exact mx), fun e => htm (ms _ e)⟩
    · exact ⟨ht.sn j q, fun e => hsm j q (by rw [e]; exact mx), fun e => hsm j q (ms j e)⟩
  have hw : ∀ j, bB vs = some j → h' j = h j := fun j q => o' j (mn j (ms j q)).1 ((sv.vsx j q).1) (fun e => (sv.vsx j q).2.2 e)
  refine ⟨e, p, fun j => j = x ∨ bB vs = some j ∨ j = m, hp, ⟨.sl m 0 (L.length + 1) none 1, vs, fW xl p (.ptr t 0), xs, ⟨r', ?_, ?_, ?_, ?_, by have := sv.xn; omega, fun j q => by have := (hne j q).1; omega, fun q => (hne x q).2.1 rfl, fun j q => ?_, fun j q => ?_⟩, .inl rfl, fun j q => ?_, fun j q => ?_, fun j q => ?_⟩, ⟨hn', f', fun j q => ?_, fun j hj hm => o' j hj (fun e => hm (by rw [e]; exact mx)) (fun e => hm (ml j e))⟩⟩
  · rw [hil]; exact l'
  · exact ((sv.lp.mono (D' := fun j => D j ∨ j = t ∨ bB st = some j) (fun j q => .inl q) (fun j q => keepD j (.inl q)))).ins (ht.toAt.aX (keepD t (.inr (.inl rfl))) (fun j q => keepD j (.inr (.inr q)))) (.inr (.inl rfl)) (fun j q => .inr (.inr q)) p
  · exact sv.s.aX hw
  · exact sv.sp.mono (fun j q => .inl q) (fun j q => keepD j (.inl q))
  · injection q with q
    subst q
    exact ⟨by have := sv.xn; omega, fun w => by have := (hne _ w).1; omega⟩
  · exact ⟨(sv.vsx j q).1, fun w => (hne j w).2.2 q, fun w => by injection w with w; have := (mn j (ms j q)).1; omega⟩
  · injection q with q; exact .inr (.inr q.symm)
  · exact .inr (.inl q)
  · rcases q with q | q | q
    · subst q; exact ⟨by have := sv.xn; omega, fun w => (hne _ w).2.1 rfl⟩
    · exact ⟨by have := (mn j (ms j q)).1; omega, fun w => (hne j w).2.2 q⟩
    · subst q; exact ⟨hm2, fun w => by have := (hne _ w).1; omega⟩
  · rcases q with q | q | q
    · subst q; exact .inl mx
    · exact .inl (ms j q)
    · exact .inr (by omega)
theorem XY (x t : Nat) (st : a9) (tv : Ver) (L S : List Ver) (D M : Nat → Prop) (h : Hp) (n : Nat) (hs : IxS h n D M x L S) (ht : AtN h n t st tv) (htm : ¬ M t) (hsm : ∀ j, bB st = some j → ¬ M j) (hr : dM true S) (hc : S.length ≤ 1000000) (hf : bO h n) :
    Wp (bD env (evalW env) 78 [.ptr x 3, .ptr t 0]) h n fun v' h' n' => v' = .tup [] ∧ ∃ p M', Pos true S tv p ∧ IxS h' n' (fun j => D j ∨ j = t ∨ bB st = some j) M' x L (fW S p tv) ∧ Ch2 h n M h' n' M' := by
  obtain ⟨vl, vs, xl, xs, sv, mx, ml, ms, mn⟩ := hs
  refine uJ hf (f78 true x 3 _ vs t st tv S.length xs S D h n sv.row rfl rfl (by omega) sv.s sv.sp (fun j hj => ⟨sv.dn j hj, fun q => (sv.vsx j q).2.1 hj⟩) ht (hr.mono tv) sv.xn (fun q => (sv.vsx x q).1 rfl) hf) fun v' h' n' hn' f' ⟨e, p, m, hp, hm1, hm2, l', r', o'⟩ => ?_
  have hil : (fW S p tv).length = S.length + 1 := jC _ _ _
  have keepD : ∀ j, (D j ∨ j = t ∨ bB st = some j) → h' j = h j := fun j q => by
    rcases q with q | q | q
    · exact o' j (sv.dn j q) (fun e => sv.xd (by rw [← e]; exact q)) (fun e => (sv.vsx j e).2.1 q)
    · subst q; exact o' _ ht.idn (fun e => htm (by rw [e]; exact mx)) (fun e => htm (ms _ e))
    · exact o' j (ht.sn j q) (fun e => hsm j q (by rw [e]; exact mx)) (fun e => hsm j q (ms j e))
  have hne : ∀ j, (D j ∨ j = t ∨ bB st = some j) → j < n ∧ j ≠ x ∧ bB vl ≠ some j := fun j q => by
    rcases q with q | q | q
    · exact ⟨sv.dn j q, fun e => sv.xd (by rw [← e]; exact q), fun e => (sv.vlx j e).2 q⟩
    · subst q; exact ⟨ht.idn, fun e => htm (by rw [e]; exact mx), fun e => htm (ml _ e)⟩
    · exact ⟨ht.sn j q, fun e => hsm j q (by rw [e]; exact mx), fun e => hsm j q (ml j e)⟩
  have hw : ∀ j, bB vl = some j → h' j = h j := fun j q => o' j (mn j (ml j q)).1 ((sv.vlx j q).1) (fun e => (sv.vsx j e).2.2 q)
  refine ⟨e, p, fun j => j = x ∨ bB vl = some j ∨ j = m, hp, ⟨vl, .sl m 0 (S.length + 1) none 1, xl, fW xs p (.ptr t 0), ⟨r', ?_, ?_, ?_, ?_, by have := sv.xn; omega, fun j q => by have := (hne j q).1; omega, fun q => (hne x q).2.1 rfl, fun j q => ?_, fun j q => ?_⟩, .inl rfl, fun j q => ?_, fun j q => ?_, fun j q => ?_⟩, ⟨hn', f', fun j q => ?_, fun j hj hm => o' j hj (fun e => hm (by rw [e]; exact mx)) (fun e => hm (ms j e))⟩⟩
  · exact sv.l.aX hw
  · exact sv.lp.mono (fun j q => .inl q) (fun j q => keepD j (.inl q))
  · rw [hil]; exact l'
  · exact ((sv.sp.mono (D' := fun j => D j ∨ j = t ∨ bB st = some j) (fun j q => .inl q) (fun j q => keepD j (.inl q)))).ins (ht.toAt.aX (keepD t (.inr (.inl rfl))) (fun j q => keepD j (.inr (.inr q)))) (.inr (.inl rfl)) (fun j q => .inr (.inr q)) p
  · exact ⟨(sv.vlx j q).1, fun w => (hne j w).2.2 q⟩
  · injection q with q
    subst q
    exact ⟨by have := sv.xn; omega, fun w => by have := (hne _ w).1; omega, fun w => by have := (mn _ (ml _ w)).1; omega⟩
  · exact .inr (.inl q)
  · injection q with q; exact .inr (.inr q.symm)
  · rcases q with q | q | q
    · subst q; exact ⟨by have := sv.xn; omega, fun w => (hne _ w).2.1 rfl⟩
    · exact ⟨by have := (mn j (ml j q)).1; omega, fun w => (hne j w).2.2 q⟩
    · subst q; exact ⟨hm2, fun w => by have := (hne _ w).1; omega⟩
  · rcases q with q | q | q
    · subst q; exact .inl mx
    · exact .inl (ml j q)
    · exact .inr (by omega)
theorem Q5 (x t : Nat) (st : a9) (tv : Ver) (L S : List Ver) (D M : Nat → Prop) (h : Hp) (n : Nat) (hs : IxS h n D M x L S) (ht : AtN h n t st tv) (hr : dM false L) (hin : ∃ w ∈ L, iE false w tv = 0) (hc : L.length ≤ 1000000) (hf : bO h n) :
    Wp (bD env (evalW env) 79 [.ptr x 1, .ptr t 0]) h n fun v' h' n' => v' = .tup [] ∧ ∃ p, Pos false L tv p ∧ p < L.length ∧ IxS h' n' D M x (iL L p) S ∧ Ch2 h n M h' n' M := by
  obtain ⟨vl, vs, xl, xs, sv, mx, ml, ms, mn⟩ := hs
  refine uJ hf (f79 false x 1 _ vl t st tv L.length xl L D h n sv.row rfl rfl (by omega) sv.l sv.lp (fun j hj => ⟨sv.dn j hj, fun q => (sv.vlx j q).2 hj⟩) ht (hr.mono tv) (by obtain ⟨w, hw, he⟩ := hin; exact ⟨w, hw, by omega⟩) sv.xn (fun q => (sv.vlx x q).1 rfl) hf) fun v' h' n' hn' f' ⟨e, p, id, hp, hpl, hid, l', r', o'⟩ => ?_
  have hdl : (iL L p).length = L.length - 1 := oY hpl
  have keepD : ∀ j, D j → h' j = h j := fun j q => o' j (sv.dn j q) (fun e => sv.xd (by rw [← e]; exact q)) (fun e => (sv.vlx j e).2 q)
  have hw : ∀ j, bB vs = some j → h' j = h j := fun j q => o' j (mn j (ms j q)).1 ((sv.vsx j q).1) (fun e => (sv.vsx j q).2.2 e)
  refine ⟨e, p, hp, hpl, ⟨.sl id 0 (L.length - 1) none 1, vs, iL xl p, xs, ⟨r', ?_, ?_, ?_, ?_, by have := sv.xn; omega, fun j q => by have := sv.dn j q; omega, sv.xd, fun j q => ?_, fun j q => ?_⟩, mx, fun j q => ?_, fun j q => ?_, fun j q => ⟨by have := (mn j q).1; omega, (mn j q).2⟩⟩, ⟨hn', f', fun j q => .inl q, fun j hj hm => o' j hj (fun e => hm (by rw [e]; exact mx)) (fun e => hm (ml j e))⟩⟩
  · rw [hdl]; exact l'
  · exact (sv.lp.mono (fun j q => q) keepD).del p
  · exact sv.s.aX hw
  · exact sv.sp.mono (fun j q => q) keepD
  · injection q with q; subst q; exact sv.vlx _ hid
  · refine ⟨(sv.vsx j q).1, (sv.vsx j q).2.1, fun w => (sv.vsx j q).2.2 (by injection w with w; rw [← w]; exact hid)⟩
  · injection q with q; subst q; exact ml _ hid
  · exact ms j q
theorem Q4 (x t : Nat) (st : a9) (tv : Ver) (L S : List Ver) (D M : Nat → Prop) (h : Hp) (n : Nat) (hs : IxS h n D M x L S) (ht : AtN h n t st tv) (hr : dM true S) (hin : ∃ w ∈ S, iE true w tv = 0) (hc : S.length ≤ 1000000) (hf : bO h n) :
    Wp (bD env (evalW env) 79 [.ptr x 3, .ptr t 0]) h n fun v' h' n' => v' = .tup [] ∧ ∃ p, Pos true S tv p ∧ p < S.length ∧ IxS h' n' D M x L (iL S p) ∧ Ch2 h n M h' n' M := by
  obtain ⟨vl, vs, xl, xs, sv, mx, ml, ms, mn⟩ := hs
  refine uJ hf (f79 true x 3 _ vs t st tv S.length xs S D h n sv.row rfl rfl (by omega) sv.s sv.sp (fun j hj => ⟨sv.dn j hj, fun q => (sv.vsx j q).2.1 hj⟩) ht (hr.mono tv) (by obtain ⟨w, hw, he⟩ := hin; exact ⟨w, hw, by omega⟩) sv.xn (fun q => (sv.vsx x q).1 rfl) hf) fun v' h' n' hn' f' ⟨e, p, id, hp, hpl, hid, l', r', o'⟩ => ?_
  have hdl : (iL S p).length = S.length - 1 := oY hpl
  have keepD : ∀ j, D j → h' j = h j := fun j q => o' j (sv.dn j q) (fun e => sv.xd (by rw [← e]; exact q)) (fun e => (sv.vsx j e).2.1 q)
  have hw : ∀ j, bB vl = some j → h' j = h j := fun j q => o' j (mn j (ml j q)).1 ((sv.vlx j q).1) (fun e => (sv.vsx j e).2.2 q)
  refine ⟨e, p, hp, hpl, ⟨vl, .sl id 0 (S.length - 1) none 1, xl, iL xs p, ⟨r', ?_, ?_, ?_, ?_, by have := sv.xn; omega, fun j q => by have := sv.dn j q; omega, sv.xd, fun j q => ?_, fun j q => ?_⟩, mx, fun j q => ?_, fun j q => ?_, fun j q => ⟨by have := (mn j q).1; omega, (mn j q).2⟩⟩, ⟨hn', f', fun j q => .inl q, fun j hj hm => o' j hj (fun e => hm (by rw [e]; exact mx)) (fun e => hm (ms j e))⟩⟩
  · exact sv.l.aX hw
  · exact sv.lp.mono (fun j q => q) keepD
  · rw [hdl]; exact l'
  · exact (sv.sp.mono (fun j q => q) keepD).del p
  · exact sv.vlx j q
  · injection q with q; subst q; exact sv.vsx _ hid
  · exact ml j q
  · injection q with q; subst q; exact ms _ hid
def key (hash : List UInt8) (pn made : Int) : Ver := ⟨hash, pn, made, 0, [], false, 0, List.replicate 32 0⟩
theorem K8 {hash : List UInt8} {pn made : Int} (h : hash.length = 32) : (key hash pn made).Ok := ⟨h, rfl⟩
theorem hO {place : Nat → Option (Nat × Nat)} {i off sz : Nat} {pre mid post : List a9} {v : a9} {rest : List (Nat × a9)} (hp : place i = some (off, sz)) (h1 : pre.length = off) (h2 : mid.length = sz) (h3 : v.cells.length = sz) (h4 : eD v = false) :
    fill place (pre ++ mid ++ post) ((i, v) :: rest) = fill place (pre ++ v.cells ++ post) rest := by
  have e1 : (off + sz).ble (pre ++ mid ++ post).length = true := dC (by simp only [List.length_append]; omega)
  have e2 : (pre ++ mid ++ post).take off = pre := by rw [List.append_assoc, List.take_left' h1]
  have e3 : (pre ++ mid ++ post).drop (off + sz) = post := by rw [List.drop_left' (by rw [List.length_append]; omega)]
  simp only [fill, hp, h4, Bool.not_false, h3, Nat.beq_refl, e1, Bool.and_self, e2, e3]
def z33 : List a9 := List.replicate 32 (.int .u8 0) ++ [.int .u32 0]
def z36 : List a9 := [.int .i64 0, .aV, .bool false, .int .i64 0] ++ List.replicate 32 (.int .u8 0)
theorem z31 : fG.i.zero.cells = [] ++ z33 ++ ([.int .i64 0] ++ z36) := rfl
theorem P5 {hash : List UInt8} {pn made : Int} (hl : hash.length = 32) : build env 31 [(0, .agg (aY hash pn)), (1, .int .i64 made)] = M.pure (.agg (aO (key hash pn made) .aV)) := by
  have h1 : (a9.agg (aY hash pn)).cells.length = 33 := cA hl
  have e1 : ∀ pl : Nat → Option (Nat × Nat), pl 0 = some (0, 33) → pl 1 = some (33, 1) → fill pl fG.i.zero.cells [(0, .agg (aY hash pn)), (1, .int .i64 made)] = some (aO (key hash pn made) .aV) := fun pl p0 p1 => by
    rw [z31, hO p0 rfl rfl h1 rfl, List.nil_append, ← List.append_assoc]
    rw [hO p1 h1 rfl rfl rfl]
    simp only [fill]
    congr 1
    unfold aO mL key
    simp only [a9.cells, List.append_assoc]
    congr 1
  have e2 : build env 31 [(0, .agg (aY hash pn)), (1, .int .i64 made)] = (aZ "build" (fill ([(0, 33), (33, 1), (34, 1), (35, 1), (36, 1), (37, 1), (38, 32)][·]?) fG.i.zero.cells [(0, .agg (aY hash pn)), (1, .int .i64 made)])).bind fun cs => M.pure (.agg cs) := rfl
  rw [e2, e1 _ rfl rfl]
  rfl
theorem f76 (x : Nat) (hash : List UInt8) (pn made : Int) (hl : hash.length = 32) (L S : List Ver) (D M : Nat → Prop) (h : Hp) (n : Nat) (hs : IxS h n D M x L S) (hr : dM false L) (hc : L.length ≤ 1000000) (hf : bO h n) :
    Wp (bD env (evalW env) 76 [.ptr x 0, .agg (aY hash pn), .int .i64 made]) h n fun v' h' n' => ((∀ w ∈ L, fM w (key hash pn made) ≠ 0) ∧ v' = .eZ ∨ ∃ id sv w, w ∈ L ∧ fM w (key hash pn made) = 0 ∧ v' = .ptr id 0 ∧ At h' id sv w ∧ D id ∧ ∀ j, bB sv = some j → D j) ∧ Old h h' n := by
  have hs0 := hs
  obtain ⟨vl, vs, xl, xs, sv, mx, ml, ms, mn⟩ := hs
  refine bL ff76 fi76 ?_
  simp only [UM, Try.f76, Option.getD_some, List.replicate, aC, execOp, opd, nth, ended, aT, aU, Nat.reduceAdd, Nat.reduceSub, gL, gI]
  refine dA (v := .agg (aY hash pn)) iK rfl hf fun H1 r1 o1 f1 => ?_
  simp only [aC, fgr, execOp, opd, ofValue, aD, put, aB]
  refine cG ⟨rfl, ?_⟩
  simp only [aF, aI, aC, tyr, execOp, opd, aD, put, nth, und, sizeOf, nilCheck, aZ, aS, fieldAddr, Nat.reduceAdd, gL, gI]
  have hld : Rd (load env 28 (.ptr n 0)) H1 (n + 1) [n] (.agg (aY hash pn)) := Row.whole r1 iK rfl (cA hl)
  rw [bP hld]
  simp only [aF, aI, execOp, opd, dE, aD, put, nth, Nat.reduceAdd, P5 hl]
  refine OU (v := .agg (aO (key hash pn made) .aV)) dY rfl f1 fun H2 r w r2 o2 f2 => ?_
  simp only [aF, hkr, execOp, opd, bG, aD, put, nth, aL, aE, Nat.reduceAdd, gL]
  have old2 : Old h H2 n := fun j hj => by rw [o2 j (by omega), o1 j (by omega)]
  have ht : AtN H2 (n + 1 + 1) (n + 1) .aV (key hash pn made) := ⟨⟨⟨_, r2⟩, .aV, K8 hl⟩, by omega, fun j hj => by cases hj⟩
  have row2 := sv.row.aX (old2 x sv.xn)
  refine eF f2 (f103 false x 1 _ vl (n + 1) .aV (key hash pn made) L.length xl L D H2 _ row2 rfl rfl (by omega) (sv.l.aX (fun j q => old2 j (mn j (ml j q)).1)).rds (fun j q => by have := (mn j (ml j q)).1; omega) (sv.lp.mono (fun j q => q) (fun j q => old2 j (sv.dn j q))) (fun j q => by have := sv.dn j q; omega) ht (hr.mono _) f2) fun v3 h3 n3 r3 w3 hn3 f3 ⟨p, hP, e3, o3⟩ => ?_
  subst e3
  have old3 : Old h h3 n := fun j hj => by rw [o3 j (by omega), old2 j hj]
  simp only [bY, aF, aI, aC, fgr, execOp, opd, aD, put, nth, aB, unOp, extract, aZ, Nat.reduceAdd, gL]
  refine ⟨(by (try simp (disch := first | assumption | omega) only [dF, List.all_cons, List.all_nil, gB, gF]); repeat' (first | rfl | exact (Bool.or_eq_true _ _).mpr (.inr rfl) | refine (Bool.and_eq_true _ _).mpr ⟨?_, ?_⟩)), ?_⟩
  have hat := BF hr hP
  cases hq : uE false L (key hash pn made) p with
  | false =>
    simp only [aC, fgr, execOp, opd, ofValue, aD, put, nth, aB, reduceCtorEq, gB]
    exact ⟨.inl (fun w hw he => by rw [hq] at hat; exact absurd (hat.2 ⟨w, hw, he⟩) (by decide)), old3⟩
  | true =>
    simp only [aC, tyr, execOp, opd, aD, put, nth, und, sizeOf, nilCheck, aZ, aS, fieldAddr, gL, gB, gI]
    have hpl : p < L.length := by
      by_cases q : p < L.length
      · exact q
      · unfold uE at hq; rw [List.getElem?_eq_none (by omega)] at hq; cases hq
    have he : fM L[p] (key hash pn made) = 0 := by
      unfold uE at hq
      rw [List.getElem?_eq_getElem hpl] at hq
      exact of_decide_eq_true hq
    have row3 := sv.row.aX (old3 x sv.xn)
    have lp3 := sv.lp.mono (D' := D) (fun j q => q) (fun j q => old3 j (sv.dn j q))
    have l3 := sv.l.aX (fun j q => old3 j (mn j (ml j q)).1)
    obtain ⟨id, sw, hx, a, d1, d2⟩ := lp3.get hpl
    rw [aM (row3.one (off := 1) rfl pZ rfl)]
    simp only [aC, execOp, opd, aD, put, nth]
    rw [aM (l3.rds.idx u95 pX rfl hpl)]
    simp only [aC, execOp, opd, aD, put, nth]
    rw [aM (l3.rds.load iV rfl (by rw [Nat.mul_one]; exact hx))]
    simp only [aC, fgr, execOp, opd, aD, put, nth, aB, reduceCtorEq, gB]
    exact ⟨.inr ⟨id, sw, L[p], List.getElem_mem hpl, he, rfl, a, d1, d2⟩, old3⟩
theorem kC {o : Bool} {vs : List Ver} (r : dM o vs) {a b : Ver} (ha : a ∈ vs) (hb : b ∈ vs) (h : iE o a b = 0) : a = b := by
  obtain ⟨i, hi, rfl⟩ := List.mem_iff_getElem.1 ha
  obtain ⟨j, hj, rfl⟩ := List.mem_iff_getElem.1 hb
  rcases Nat.lt_trichotomy i j with q | q | q
  · have := r.at_ hi hj q; omega
  · subst q; rfl
  · have := r.at_ hj hi q
    have := (zR o).sO vs[i] vs[j]
    omega
def pos (o : Bool) (vs : List Ver) (t : Ver) : Nat := vs.countP fun w => decide (iE o w t < 0)
theorem Pos.eq {o : Bool} {vs : List Ver} {t : Ver} {p : Nat} (h : Pos o vs t p) : p = pos o vs t := by
  unfold pos
  conv => rhs; rw [← List.take_append_drop p vs]
  rw [List.countP_append]
  have h1 : (vs.take p).countP (fun w => decide (iE o w t < 0)) = p := by
    rw [List.countP_eq_length.2 (fun a ha => by
      obtain ⟨k, hk, rfl⟩ := List.mem_iff_getElem.1 ha
      rw [List.length_take] at hk
      rw [List.getElem_take]
      exact decide_eq_true (h.lo k (by omega) (by omega))), List.length_take]
    have := h.le; omega
  have h2 : (vs.drop p).countP (fun w => decide (iE o w t < 0)) = 0 := by
    rw [List.countP_eq_zero]
    intro a ha
    obtain ⟨k, hk, rfl⟩ := List.mem_iff_getElem.1 ha
    rw [List.length_drop] at hk
    rw [List.getElem_drop]
    have := h.hi (p + k) (by omega) (by omega)
    simpa using this
  omega
theorem pos_at {o : Bool} {vs : List Ver} {t : Ver} {p : Nat} (r : dM o vs) (h : Pos o vs t p) (ht : t ∈ vs) : ∃ hp : p < vs.length, vs[p] = t := by
  have ha := (BF r h).2 ⟨t, ht, (zR o).refl t⟩
  unfold uE at ha
  cases e : vs[p]? with
  | none => rw [e] at ha; cases ha
  | some w =>
    rw [e] at ha
    obtain ⟨hp, hw⟩ := List.getElem?_eq_some_iff.1 e
    refine ⟨hp, ?_⟩
    rw [hw]
    exact kC r (List.mem_of_getElem? e) ht (of_decide_eq_true ha)
def mP (L : List Ver) (v : Ver) : List Ver := fW L (pos false L v) v
def kP (L : List Ver) (v : Ver) : List Ver := iL L (pos false L v)
structure Ix (h : Hp) (n : Nat) (D M : Nat → Prop) (x : Nat) (L : List Ver) : Prop where
  ex : ∃ S, IxS h n D M x L S ∧ dM true S ∧ L.Perm S
  r : dM false L
  ok : ∀ v ∈ L, v.Ok ∧ v.aR.length ≤ 1000000
structure Chg (h : Hp) (n : Nat) (D M : Nat → Prop) (h' : Hp) (n' : Nat) (D' M' : Nat → Prop) : Prop extends Ch2 h n M h' n' M' where
  d : ∀ j, D j → D' j
  d' : ∀ j, D' j → D j ∨ n ≤ j
theorem Chg.trans {h h1 h2 : Hp} {n n1 n2 : Nat} {D D1 D2 M M1 M2 : Nat → Prop} (a : Chg h n D M h1 n1 D1 M1) (b : Chg h1 n1 D1 M1 h2 n2 D2 M2) : Chg h n D M h2 n2 D2 M2 :=
  ⟨a.toCh2.trans b.toCh2, fun j hj => b.d j (a.d j hj), fun j hj => (b.d' j hj).elim (a.d' j) (fun q => .inr (Nat.le_trans a.nx q))⟩
theorem Chg.of {h h' : Hp} {n n' : Nat} {D M : Nat → Prop} (hf : bO h' n') (hn : n ≤ n') (ho : Old h h' n) : Chg h n D M h' n' D M := ⟨.of hf hn ho, fun _ h => h, fun _ h => .inl h⟩
theorem Ix.beside {h h' : Hp} {n n' : Nat} {D M : Nat → Prop} {x : Nat} {L : List Ver} (s : Ix h n D M x L) (hn : n ≤ n') (ho : ∀ j, j < n → (D j ∨ M j) → h' j = h j) : Ix h' n' D M x L := by
  obtain ⟨⟨S, a, b, c⟩, r, k⟩ := s
  exact ⟨⟨S, a.beside hn ho, b, c⟩, r, k⟩
theorem Ix.old {h h' : Hp} {n n' : Nat} {D M : Nat → Prop} {x : Nat} {L : List Ver} (s : Ix h n D M x L) (hn : n ≤ n') (ho : Old h h' n) : Ix h' n' D M x L := s.beside hn fun j hj _ => ho j hj
theorem b100 : build env 100 [(0, .bool true)] = M.pure (.agg [.bool true, .aV, .dI, .aV, .dI]) := rfl
theorem f40 (h : Hp) (n : Nat) (hf : bO h n) : Wp (bD env (evalW env) 40 []) h n fun v' h' n' => ∃ x, v' = .ptr x 0 ∧ n ≤ x ∧ Ix h' n' (fun _ => False) (fun j => j = x) x [] ∧ Old h h' n := by
  refine bL ff40 fi40 ?_
  simp only [V6, Try.f40, Option.getD_some, List.replicate, aC, fgr, execOp, opd, ofValue, dE, aD, put, nth, aB, ended, aT, aU, Nat.reduceSub, b100, gL, gI]
  refine dA (v := .agg [.bool true, .aV, .dI, .aV, .dI]) EO rfl hf fun h1 r1 o1 f1 => ?_
  obtain ⟨e, he⟩ := r1
  simp only [aC, tyr, fgr, execOp, opd, aD, put, nth, aB, und, sizeOf, nilCheck, aZ, aS, fieldAddr, Nat.reduceAdd, gL, gI]
  rw [dR (Row.write (v := .fn (.func 84) [] []) he G1 rfl (by decide) rfl)]
  simp only [aC, tyr, execOp, opd, aD, put, nth, und, sizeOf, cel, nilCheck, aZ, aS, fieldAddr, Nat.reduceAdd, gL, gI]
  rw [dR (Row.write (v := .fn (.func 85) [] []) (aW _ _ _) G1 rfl (by decide) rfl)]
  simp only [aC, fgr, execOp, opd, aD, put, nth, aB, cel, gB]
  refine ⟨n, rfl, Nat.le_refl _, ⟨⟨[], ⟨.aV, .aV, [], [], ⟨?_, .nil, ⟨rfl, fun j x v hx => by simp at hx⟩, .nil, ⟨rfl, fun j x v hx => by simp at hx⟩, by omega, fun j q => q.elim, fun q => q, fun j q => (by cases q), fun j q => (by cases q)⟩, rfl, fun j q => (by cases q), fun j q => (by cases q), fun j q => ⟨by omega, fun w => w⟩⟩, .nil, .nil⟩, .nil, fun v hv => (by cases hv)⟩, fun j hj => ?_⟩
  · exact Row.new _ _ _ _
  · rw [aP _ _ (by omega), aP _ _ (by omega), o1 j (by omega)]
theorem f34 (x : Nat) (hash : List UInt8) (pn made : Int) (hl : hash.length = 32) (L : List Ver) (D M : Nat → Prop) (h : Hp) (n : Nat) (hs : Ix h n D M x L) (hc : L.length ≤ 1000000) (hf : bO h n) :
    Wp (bD env (evalW env) 34 [.ptr x 0, .agg (aY hash pn), .int .i64 made]) h n fun v' h' n' => ((∀ w ∈ L, fM w (key hash pn made) ≠ 0) ∧ v' = .int .i64 210 ∧ Ix h' n' D M x L ∨ ∃ w, w ∈ L ∧ fM w (key hash pn made) = 0 ∧ v' = .int .i64 0 ∧ Ix h' n' D M x (kP L w)) ∧ Chg h n D M h' n' D M := by
  obtain ⟨⟨S, s, rS, perm⟩, rL, ok⟩ := hs
  have s0 := s
  obtain ⟨vl, vs, xl, xs, sv, mx, ml, ms, mn⟩ := s0
  refine bL ff34 fi34 ?_
  simp only [VA, Try.f34, Option.getD_some, List.replicate, aC, execOp, opd, nth, ended, aT, aU, Nat.reduceAdd, Nat.reduceSub, gL, gI]
  refine dA (v := .agg (aY hash pn)) iK rfl hf fun H1 r1 o1 f1 => ?_
  have old1 : Old h H1 n := fun j hj => o1 j (by omega)
  simp only [aC, fgr, hkr, execOp, opd, bG, ofValue, aD, put, nth, aB, aL, aE, gL]
  refine eL (f73 x _ true H1 (n + 1) (sv.row.aX (old1 x sv.xn)) rfl) ?_
  simp only [aC, fgr, execOp, opd, aD, put, nth, aB, gB]
  have hld : Rd (load env 28 (.ptr n 0)) H1 (n + 1) [n] (.agg (aY hash pn)) := Row.whole r1 iK rfl (cA hl)
  rw [aM hld]
  simp only [aC, hkr, execOp, opd, bG, aD, put, nth, aL, aE, gL]
  have s1 := s.old (n' := n + 1) (by omega) old1
  refine bF f1 (f76 x hash pn made hl L S D M H1 (n + 1) s1 rL hc f1) fun v2 h2 n2 hn2 f2 ⟨hh, o2⟩ => ?_
  have old2 : Old h h2 n := fun j hj => by rw [o2 j (by omega), old1 j hj]
  have s2 := s1.old hn2 o2
  rcases hh with ⟨hno, e2⟩ | ⟨id, sw, w, hw, hkey, e2, a, d1, d2⟩
  · subst e2
    simp only [aC, tyr, fgr, execOp, opd, ofValue, aD, put, nth, aB, und, bor, bE, dG, dU, bJ, equal, cZ, cH, cJ, gB]
    exact ⟨.inl ⟨hno, ⟨⟨S, s2, rS, perm⟩, rL, ok⟩⟩, .of f2 (by omega) old2⟩
  subst e2
  simp only [aC, tyr, fgr, hkr, execOp, opd, bG, ofValue, aD, put, nth, aB, aL, aE, und, sizeOf, bor, bE, dG, dU, nilCheck, aZ, aS, fieldAddr, bJ, equal, cZ, cH, cJ, gL, gB, gI]
  have at2 : AtN h2 n2 id sw w := ⟨a, by have := sv.dn id d1; omega, fun j q => by have := sv.dn j (d2 j q); omega⟩
  refine bF f2 (Q5 x id sw w L S D M h2 n2 s2 at2 rL ⟨w, hw, oL.refl w⟩ hc f2) fun v3 h3 n3 hn3 f3 ⟨e3, p, hp, hpl, s3, c3⟩ => ?_
  subst e3
  simp only [aC, tyr, fgr, hkr, execOp, opd, bG, aD, put, nth, aB, aL, aE, und, sizeOf, nilCheck, aZ, aS, fieldAddr, gL, gI]
  have hwm : ∀ j, D j → ¬ M j := fun j q w => (mn j w).2 q
  have at3 : AtN h3 n3 id sw w := ⟨a.aX (c3.old id at2.idn (hwm id d1)) (fun j q => c3.old j (at2.sn j q) (hwm j (d2 j q))), by have := at2.idn; omega, fun j q => by have := at2.sn j q; omega⟩
  have hwS : w ∈ S := perm.mem_iff.1 hw
  refine bF f3 (Q4 x id sw w _ S D M h3 n3 s3 at3 rS ⟨w, hwS, RR.refl w⟩ (by rw [← perm.length_eq]; exact hc) f3) fun v4 h4 n4 hn4 f4 ⟨e4, q, hq, hql, s4, c4⟩ => ?_
  subst e4
  simp only [aC, fgr, execOp, opd, ofValue, aD, put, nth, aB, gB]
  obtain ⟨hp1, hp2⟩ := pos_at rL hp hw
  obtain ⟨hq1, hq2⟩ := pos_at rS hq hwS
  have perm2 : (iL L p).Perm (iL S q) := by
    have e1 := jU hp1
    have e2 := jU hq1
    rw [hp2] at e1
    rw [hq2] at e2
    exact (List.perm_cons w).1 (e1.symm.trans (perm.trans e2))
  have e : iL L p = kP L w := by unfold kP; rw [← hp.eq]
  have ok2 : ∀ v ∈ iL L p, v.Ok ∧ v.aR.length ≤ 1000000 := fun v hv => ok v ((jU hp1).mem_iff.2 (List.mem_cons_of_mem _ hv))
  rw [e] at s4 perm2 ok2
  exact ⟨.inr ⟨w, hw, hkey, ⟨⟨_, s4, pR rS q, perm2⟩, by rw [← e]; exact pR rL p, ok2⟩⟩, ⟨((Ch2.of f2 (by omega) old2).trans c3).trans c4, fun j q => q, fun j q => .inl q⟩⟩
theorem VY {a b : Ver} (h : E3 a b = 0) : fM a b = 0 := by
  unfold E3 orI at h
  split at h
  · exact h
  · contradiction
def uG (v : Ver) : Bool := decide (v.made < 0) || (decide (v.bZ ≠ 0) && (decide (v.bZ < v.made) || decide (v.bZ < 0)))
def AA (v : Ver) (L : List Ver) : Prop := uG v = true ∨ ∃ w ∈ L, fM w v = 0
theorem J4 {h : Hp} {n : Nat} {D M : Nat → Prop} {x : Nat} {tv : Ver} {L S : List Ver} {p q : Nat} (hp : Pos false L tv p) (hq : Pos true S tv q) (rL : dM false L) (rS : dM true S) (perm : L.Perm S) (ok : ∀ v ∈ L, v.Ok ∧ v.aR.length ≤ 1000000) (okt : tv.Ok ∧ tv.aR.length ≤ 1000000)
    (hno : ∀ w ∈ L, fM w tv ≠ 0) (hs : IxS h n D M x (fW L p tv) (fW S q tv)) : Ix h n D M x (mP L tv) := by
  have e : fW L p tv = mP L tv := by unfold mP; rw [← hp.eq]
  have rL2 := tD rL hp hno
  have rS2 := tD rS hq (fun w hw he => hno w (perm.mem_iff.2 hw) (VY he))
  have pm : (fW L p tv).Perm (fW S q tv) := (tE L p tv).trans ((List.Perm.cons tv perm).trans (tE S q tv).symm)
  have ok2 : ∀ v ∈ fW L p tv, v.Ok ∧ v.aR.length ≤ 1000000 := fun v hv => by
    rcases BG.1 hv with rfl | hv
    · exact okt
    · exact ok v hv
  rw [e] at hs rL2 pm ok2
  exact ⟨⟨_, hs, rS2, pm⟩, rL2, ok2⟩
end Go.Am.Ytlgebaofkolkoaa
set_option linter.unusedSimpArgs false
set_option linter.unusedVariables false
set_option linter.defProp false
set_option maxRecDepth 10000
namespace Go.Am.Ytlgebaofkolkoaa
open Go Go.Am Go.Proofs
theorem f33 (x : Nat) (v : Ver) (sv : a9) (ov : v.Ok) (hsl : v.aR.length ≤ 1000000) (L : List Ver) (D M : Nat → Prop) (h : Hp) (n : Nat) (hs : Ix h n D M x L) (hb : Bytes h sv v.aR) (hsn : ∀ j, bB sv = some j → j < n) (hc : L.length ≤ 900000) (hf : bO h n) :
    Wp (bD env (evalW env) 33 [.ptr x 0, .agg (aO v sv)]) h n fun v' h' n' => (AA v L ∧ v' = .int .i64 210 ∧ Ix h' n' D M x L ∧ Chg h n D M h' n' D M) ∨ (¬ AA v L ∧ v' = .int .i64 0 ∧ ∃ D' M', Ix h' n' D' M' x (mP L v) ∧ Chg h n D M h' n' D' M') := by
  obtain ⟨⟨S, s, rS, perm⟩, rL, ok⟩ := hs
  have s0 := s
  obtain ⟨vl, vs, xl, xs, iv, mx, ml, ms, mn⟩ := s0
  refine bL ff33 fi33 ?_
  simp only [VB, Try.f33, Option.getD_some, List.replicate, aC, execOp, opd, nth, ended, aT, aU, Nat.reduceAdd, Nat.reduceSub, gL, gI]
  refine dA (v := .agg (aO v sv)) dY rfl hf fun H1 r1 o1 f1 => ?_
  have old1 : Old h H1 n := fun j hj => o1 j (by omega)
  have s1 := s.old (n' := n + 1) (by omega) old1
  simp only [aC, fgr, hkr, execOp, opd, bG, ofValue, aD, put, nth, aB, aL, aE, gL]
  refine eL (f73 x _ true H1 (n + 1) (iv.row.aX (old1 x iv.xn)) rfl) ?_
  simp only [aC, tyr, fgr, execOp, opd, aD, put, nth, aB, und, sizeOf, aZ, aS, fieldAddr, gL, gB, gI]
  rw [aM (eS r1 ov)]
  have bad : uG v = true → (AA v L ∧ a9.int .i64 210 = a9.int .i64 210 ∧ Ix H1 (n + 1) D M x L ∧ Chg h n D M H1 (n + 1) D M) ∨ (¬ AA v L ∧ a9.int .i64 210 = a9.int .i64 0 ∧ ∃ D' M', Ix H1 (n + 1) D' M' x (mP L v) ∧ Chg h n D M H1 (n + 1) D' M') := fun e =>
    .inl ⟨.inl e, rfl, ⟨⟨S, s1, rS, perm⟩, rL, ok⟩, .of f1 (by omega) old1⟩
  by_cases c1 : v.made < 0
  · simp only [aC, dN, fgr, execOp, opd, ofValue, aD, put, nth, aB, bor, aJ, aK, intOp, bC, branch, c1, gL, gB]
    have := bad (by unfold uG; simp [c1])
    simpa using this
  simp only [aC, tyr, execOp, opd, ofValue, aD, put, nth, und, sizeOf, bor, aJ, aK, intOp, aZ, aS, fieldAddr, c1, gL, gB, gI]
  rw [aM (dD r1 ov)]
  have go : (v.bZ = 0 ∨ (¬ v.bZ = 0 ∧ ¬ v.bZ < v.made ∧ ¬ v.bZ < 0)) ∨ (¬ v.bZ = 0 ∧ (v.bZ < v.made ∨ (¬ v.bZ < v.made ∧ v.bZ < 0))) := by omega
  rcases go with (c2 | ⟨c2, c3, c4⟩) | ⟨c2, c3 | ⟨c3, c4⟩⟩
  rotate_left 2
  · simp only [aC, tyr, execOp, opd, ofValue, aD, put, nth, und, sizeOf, bor, aJ, aK, intOp, aZ, aS, fieldAddr, c2, gL, gB, gI]
    rw [aM (dD r1 ov)]
    simp only [aC, tyr, execOp, opd, aD, put, nth, und, sizeOf, aZ, aS, fieldAddr, gL, gI]
    rw [aM (eS r1 ov)]
    simp only [aC, fgr, execOp, opd, ofValue, aD, put, nth, aB, bor, aJ, aK, intOp, bC, branch, c3, gL, gB]
    have := bad (by unfold uG; simp [c2, c3])
    simpa using this
  · simp only [aC, tyr, execOp, opd, ofValue, aD, put, nth, und, sizeOf, bor, aJ, aK, intOp, aZ, aS, fieldAddr, c2, gL, gB, gI]
    rw [aM (dD r1 ov)]
    simp only [aC, tyr, execOp, opd, aD, put, nth, und, sizeOf, aZ, aS, fieldAddr, gL, gI]
    rw [aM (eS r1 ov)]
    simp only [aC, tyr, execOp, opd, aD, put, nth, und, sizeOf, bor, aJ, aK, intOp, aZ, aS, fieldAddr, c3, gL, gB, gI]
    rw [aM (dD r1 ov)]
    simp only [aC, fgr, execOp, opd, ofValue, aD, put, nth, aB, bor, aJ, aK, intOp, bC, branch, c4, gL, gB]
    have := bad (by unfold uG; simp [c2, c4])
    simpa using this
  all_goals
    have ne : uG v = false := by
      unfold uG
      first | (simp [c1, c2, c3, c4]; done) | (simp [c1, c2]; done)
    first
      | (simp only [aC, dN, tyr, execOp, opd, ofValue, aD, put, nth, und, sizeOf, bor, aJ, aK, intOp, bC, branch, aZ, aS, fieldAddr, bne_self_eq_false, c2, gL, gB, gI]
         rw [aM (gX r1 ov)])
      | (simp only [aC, tyr, execOp, opd, ofValue, aD, put, nth, und, sizeOf, bor, aJ, aK, intOp, aZ, aS, fieldAddr, c2, gL, gB, gI]
         rw [aM (dD r1 ov)]
         simp only [aC, tyr, execOp, opd, aD, put, nth, und, sizeOf, aZ, aS, fieldAddr, gL, gI]
         rw [aM (eS r1 ov)]
         simp only [aC, tyr, execOp, opd, aD, put, nth, und, sizeOf, bor, aJ, aK, intOp, aZ, aS, fieldAddr, c3, gL, gB, gI]
         rw [aM (dD r1 ov)]
         simp only [aC, tyr, execOp, opd, ofValue, aD, put, nth, und, sizeOf, bor, aJ, aK, intOp, bC, branch, aZ, aS, fieldAddr, c4, gL, gB, gI]
         rw [aM (gX r1 ov)])
    simp only [aC, tyr, execOp, opd, aD, put, nth, und, sizeOf, aZ, aS, fieldAddr, gL, gI]
    rw [aM (eS r1 ov)]
    simp only [aC, hkr, execOp, opd, bG, aD, put, nth, aL, aE, gL]
    refine bF f1 (f76 x v.hash v.pn v.made ov.h L S D M H1 (n + 1) s1 rL (by omega) f1) fun v2 h2 n2 hn2 f2 ⟨hh, o2⟩ => ?_
    have old2 : Old h h2 n := fun j hj => by rw [o2 j (by omega), old1 j hj]
    have s2 := s1.old hn2 o2
    rcases hh with ⟨hno, e2⟩ | ⟨id, sw, w, hw, hkey, e2, a, d1, d2⟩
    rotate_left
    · subst e2
      simp only [aC, tyr, fgr, execOp, opd, ofValue, aD, put, nth, aB, und, bor, bE, dG, dU, bC, branch, bJ, equal, cZ, cH, cJ, gL, gB]
      exact .inl ⟨.inr ⟨w, hw, hkey⟩, ⟨⟨S, s2, rS, perm⟩, rL, ok⟩, .of f2 (by omega) old2⟩
    subst e2
    simp only [aC, tyr, fgr, execOp, opd, ofValue, aD, put, nth, aB, und, bor, bE, dG, dU, bC, branch, bJ, equal, cZ, cH, cJ, gL, gB]
    have r2 := r1.aX (o2 n (by omega))
    rw [aM (eN r2 ov)]
    simp only [aC, hkr, execOp, opd, bG, aD, put, nth, aL, aE, gL]
    refine bF f2 (f77 v sv ov h2 n2 (hb.aX fun j q => old2 j (hsn j q)) (fun j q => by have := hsn j q; omega) hsl f2) fun v3 h3 n3 hn3 f3 ⟨s', e3, b3, i3, o3⟩ => ?_
    subst e3
    simp only [aC, execOp, aD, put]
    rw [cD dY rfl]
    simp only [aC, execOp, opd, aD, put, nth, cel]
    refine dQ (v := .agg (aO v s')) dY rfl (bM ov.h ov.b) (cL b3.kind.2.1) f3 fun H4 r4 o4 f4 => ?_
    have old4 : Old h2 H4 n2 := fun j hj => by rw [o4 j (by omega), o3 j hj]
    have s4 := s2.old (n' := n3 + 1) (by omega) old4
    have at4 : AtN H4 (n3 + 1) n3 s' v := ⟨⟨r4, b3.aX fun j q => o4 j (by have := i3 j q; omega), ov⟩, by omega, fun j q => by have := i3 j q; omega⟩
    simp only [aC, tyr, fgr, hkr, execOp, opd, bG, aD, put, nth, aB, aL, aE, und, sizeOf, nilCheck, aZ, aS, fieldAddr, gL, gI]
    refine bF f4 (XZ x n3 s' v L S D M H4 (n3 + 1) s4 at4 (fun q => by have := (mn _ q).1; omega) (fun j q w => by have := (mn _ w).1; have := i3 j q; omega) rL (by omega) f4) fun v5 h5 n5 hn5 f5 ⟨e5, p, M5, hp, s5, c5⟩ => ?_
    subst e5
    simp only [aC, tyr, fgr, hkr, execOp, opd, bG, aD, put, nth, aB, aL, aE, und, sizeOf, nilCheck, aZ, aS, fieldAddr, gL, gI]
    have nm5 : ∀ j, n2 ≤ j → j < n3 + 1 → ¬ M5 j := fun j q1 q2 w => by
      rcases c5.m' j w with w | w
      · have := (mn _ w).1; omega
      · omega
    have at5 : AtN h5 n5 n3 s' v := ⟨at4.toAt.aX (c5.old n3 (by omega) (fun q => by have := (mn _ q).1; omega)) (fun j q => c5.old j (at4.sn j q) (fun w => by have := (mn _ w).1; have := i3 j q; omega)), by omega, fun j q => by have := at4.sn j q; omega⟩
    refine bF f5 (XY x n3 s' v _ S _ M5 h5 n5 s5 at5 (nm5 n3 (by omega) (by omega)) (fun j q => nm5 j (i3 j q).1 (by have := i3 j q; omega)) rS (by rw [← perm.length_eq]; omega) f5) fun v6 h6 n6 hn6 f6 ⟨e6, q, M6, hq, s6, c6⟩ => ?_
    subst e6
    simp only [aC, fgr, execOp, opd, ofValue, aD, put, nth, aB, gB]
    have nP : ¬ AA v L := fun w => by
      rcases w with w | ⟨w, hw, he⟩
      · rw [ne] at w; cases w
      · exact hno w hw he
    have o04 : Old h H4 n := fun j hj => by rw [old4 j (by omega), old2 j hj]
    refine .inr ⟨nP, _, _, J4 hp hq rL rS perm ok ⟨ov, hsl⟩ hno s6, ((Ch2.of f4 (by omega) o04).trans c5).trans c6, fun j w => .inl (.inl w), fun j w => ?_⟩
    rcases w with (w | w | w) | w | w
    · exact .inl w
    · subst w; exact .inr (by omega)
    · exact .inr (by have := i3 j w; omega)
    · subst w; exact .inr (by omega)
    · exact .inr (by have := i3 j w; omega)
theorem AB {L : List Ver} {p : Nat} {w : Ver} (h : w ∈ iL L p) : w ∈ L := by
  unfold iL at h
  rcases List.mem_append.1 h with h | h
  · exact List.mem_of_mem_take h
  · exact List.mem_of_mem_drop h
theorem VW {o : Bool} {L : List Ver} {p : Nat} {w t : Ver} (r : dM o L) (hp : Pos o L w p) (hw : w ∈ L) (he : iE o w t = 0) : ∀ a ∈ iL L p, iE o a t ≠ 0 := by
  intro a ha h0
  obtain ⟨hp1, hp2⟩ := pos_at r hp hw
  have haw : iE o a w = 0 := by
    have := (zR o).eqr (d := a) he
    omega
  have e : a = w := kC r (AB ha) hw haw
  subst e
  have pm := jU hp1
  rw [hp2] at pm
  have nd : L.Nodup := by
    refine List.Pairwise.imp ?_ r
    intro a b hab e
    subst e
    have := (zR o).refl a
    omega
  have := pm.nodup_iff.1 nd
  exact (List.nodup_cons.1 this).1 ha
theorem f80 (x id : Nat) (sw : a9) (w v : Ver) (L : List Ver) (D M : Nat → Prop) (h : Hp) (n : Nat) (hs : Ix h n D M x L) (hw : w ∈ L) (a : At h id sw w) (d1 : D id) (d2 : ∀ j, bB sw = some j → D j) (hv : fM w v = 0) (hvs : v.aR = w.aR) (ov : v.Ok) (hc : L.length ≤ 900000) (hf : bO h n) :
    Wp (bD env (evalW env) 80 [.ptr x 0, .ptr id 0, .agg (aO v sw)]) h n fun v' h' n' => v' = .tup [] ∧ ∃ D' M', Ix h' n' D' M' x (mP (kP L w) v) ∧ Chg h n D M h' n' D' M' := by
  obtain ⟨⟨S, s, rS, perm⟩, rL, ok⟩ := hs
  have s0 := s
  obtain ⟨vl, vs, xl, xs, iv, mx, ml, ms, mn⟩ := s0
  refine bL ff80 fi80 ?_
  simp only [UI, Try.f80, Option.getD_some, List.replicate, aC, execOp, opd, nth, ended, aT, aU, Nat.reduceAdd, Nat.reduceSub, gL, gB, gI]
  refine dA (v := .agg (aO v sw)) dY rfl hf fun H1 r1 o1 f1 => ?_
  have old1 : Old h H1 n := fun j hj => o1 j (by omega)
  have s1 := s.old (n' := n + 1) (by omega) old1
  have hdm : ∀ j, D j → ¬ M j := fun j q w => (mn j w).2 q
  have a1 : AtN H1 (n + 1) id sw w := ⟨a.aX (old1 id (iv.dn id d1)) (fun j q => old1 j (iv.dn j (d2 j q))), by have := iv.dn id d1; omega, fun j q => by have := iv.dn j (d2 j q); omega⟩
  have b1 : AtN H1 (n + 1) n sw v := ⟨⟨r1, by rw [hvs]; exact a1.s, ov⟩, by omega, a1.sn⟩
  simp only [aC, tyr, fgr, hkr, execOp, opd, bG, aD, put, nth, aB, aL, aE, und, sizeOf, nilCheck, aZ, aS, fieldAddr, gL, gI]
  refine bF f1 (Q5 x id sw w L S D M H1 (n + 1) s1 a1 rL ⟨w, hw, oL.refl w⟩ (by omega) f1) fun v3 h3 n3 hn3 f3 ⟨e3, p, hp, hpl, s3, c3⟩ => ?_
  subst e3
  simp only [aC, tyr, fgr, hkr, execOp, opd, bG, aD, put, nth, aB, aL, aE, und, sizeOf, nilCheck, aZ, aS, fieldAddr, gL, gI]
  have nM : ¬ M n := fun q => by have := (mn n q).1; omega
  have a3 : AtN h3 n3 id sw w := ⟨a1.toAt.aX (c3.old id a1.idn (hdm id d1)) (fun j q => c3.old j (a1.sn j q) (hdm j (d2 j q))), by have := a1.idn; omega, fun j q => by have := a1.sn j q; omega⟩
  have b3 : AtN h3 n3 n sw v := ⟨b1.toAt.aX (c3.old n (by omega) nM) (fun j q => c3.old j (a1.sn j q) (hdm j (d2 j q))), by omega, a3.sn⟩
  have hwS : w ∈ S := perm.mem_iff.1 hw
  refine bF f3 (Q4 x id sw w _ S D M h3 n3 s3 a3 rS ⟨w, hwS, RR.refl w⟩ (by rw [← perm.length_eq]; omega) f3) fun v4 h4 n4 hn4 f4 ⟨e4, q, hq, hql, s4, c4⟩ => ?_
  subst e4
  simp only [aC, tyr, fgr, hkr, execOp, opd, bG, aD, put, nth, aB, aL, aE, und, sizeOf, nilCheck, aZ, aS, fieldAddr, gL, gI]
  have b4 : AtN h4 n4 n sw v := ⟨b3.toAt.aX (c4.old n (by omega) nM) (fun j q => c4.old j (a3.sn j q) (hdm j (d2 j q))), by omega, fun j q => by have := a3.sn j q; omega⟩
  obtain ⟨hp1, hp2⟩ := pos_at rL hp hw
  obtain ⟨hq1, hq2⟩ := pos_at rS hq hwS
  have perm2 : (iL L p).Perm (iL S q) := by
    have e1 := jU hp1
    have e2 := jU hq1
    rw [hp2] at e1
    rw [hq2] at e2
    exact (List.perm_cons w).1 (e1.symm.trans (perm.trans e2))
  have e : iL L p = kP L w := by unfold kP; rw [← hp.eq]
  have ok2 : ∀ v ∈ iL L p, v.Ok ∧ v.aR.length ≤ 1000000 := fun v hv => ok v (AB hv)
  have hno : ∀ a ∈ iL L p, fM a v ≠ 0 := VW rL hp hw hv
  have rL2 := pR rL p
  have rS2 := pR rS q
  have hl2 : (iL L p).length ≤ 900000 := by have := oY hp1; omega
  refine bF f4 (XZ x n sw v _ _ D M h4 n4 s4 b4 nM (fun j q => hdm j (d2 j q)) rL2 (by omega) f4) fun v5 h5 n5 hn5 f5 ⟨e5, p5, M5, hp5, s5, c5⟩ => ?_
  subst e5
  simp only [aC, tyr, fgr, hkr, execOp, opd, bG, aD, put, nth, aB, aL, aE, und, sizeOf, nilCheck, aZ, aS, fieldAddr, gL, gI]
  have nm5 : ∀ j, j < n4 → ¬ M j → ¬ M5 j := fun j q1 q2 w => by
    rcases c5.m' j w with w | w
    · exact q2 w
    · omega
  have b5 : AtN h5 n5 n sw v := ⟨b4.toAt.aX (c5.old n (by omega) nM) (fun j q => c5.old j (b4.sn j q) (hdm j (d2 j q))), by omega, fun j q => by have := b4.sn j q; omega⟩
  refine bF f5 (XY x n sw v _ _ _ M5 h5 n5 s5 b5 (nm5 n (by omega) nM) (fun j q => nm5 j (b4.sn j q) (hdm j (d2 j q))) rS2 (by rw [← perm2.length_eq]; omega) f5) fun v6 h6 n6 hn6 f6 ⟨e6, q6, M6, hq6, s6, c6⟩ => ?_
  subst e6
  simp only [aC, fgr, aD, put, aB, true_and]
  have fin := J4 hp5 hq6 rL2 rS2 perm2 ok2 ⟨ov, by rw [hvs]; exact (ok w hw).2⟩ hno s6
  rw [e] at fin
  refine ⟨_, _, fin, ((((Ch2.of f1 (by omega) old1).trans c3).trans c4).trans c5).trans c6, fun j w => .inl (.inl w), fun j w => ?_⟩
  rcases w with (w | w | w) | w | w
  · exact .inl w
  · subst w; exact .inr (by omega)
  · exact .inl (d2 j w)
  · subst w; exact .inr (by omega)
  · exact .inl (d2 j w)
theorem lE {pre mid post vs : List a9} {off : Nat} (h1 : pre.length = off) (h2 : mid.length = vs.length) : cB (pre ++ (mid ++ post)) off vs = pre ++ (vs ++ post) := by
  have e : (pre ++ (mid ++ post)).drop (off + vs.length) = post := by rw [← List.append_assoc, List.drop_left' (by rw [List.length_append]; omega)]
  unfold cB
  rw [List.take_left' h1, e]
theorem mB {w : Ver} {sv : a9} (h : w.hash.length = 32) (s : Int) : cB (aO w sv) 37 [.int .i64 s] = aO { w with bZ := s } sv := by
  have e : aO w sv = (aY w.hash w.pn ++ [.int .i64 w.made, .int .i64 w.value, sv, .bool w.base]) ++ ([.int .i64 w.bZ] ++ w.by_.map u8) := by simp [aO, mL]
  rw [e, lE (mid := [.int .i64 w.bZ]) (vs := [.int .i64 s]) (by rw [List.length_append, cA h]; rfl) rfl]
  simp [aO, mL]
theorem qL {w : Ver} {sv : a9} (h : w.hash.length = 32) (h2 : w.by_.length = 32) (b : List UInt8) (hb : b.length = 32) : cB (aO w sv) 38 (b.map u8) = aO { w with by_ := b } sv := by
  have e : aO w sv = (aY w.hash w.pn ++ [.int .i64 w.made, .int .i64 w.value, sv, .bool w.base, .int .i64 w.bZ]) ++ (w.by_.map u8 ++ []) := by simp [aO, mL]
  rw [e, lE (by rw [List.length_append, cA h]; rfl) (by simp [h2, hb])]
  simp [aO, mL]
def gQ (w : Ver) (s : Int) (b : List UInt8) : Ver := { w with bZ := s, by_ := b }
theorem f36 (x : Nat) (hash : List UInt8) (pn made s : Int) (b : List UInt8) (hl : hash.length = 32) (hbl : b.length = 32) (L : List Ver) (D M : Nat → Prop) (h : Hp) (n : Nat) (hs : Ix h n D M x L) (hc : L.length ≤ 900000) (hf : bO h n) :
    Wp (bD env (evalW env) 36 [.ptr x 0, .agg (aY hash pn), .int .i64 made, .int .i64 s, .agg (b.map u8)]) h n fun v' h' n' =>
      ((∀ w ∈ L, fM w (key hash pn made) = 0 → (w.bZ ≠ 0 ∨ s < 1 ∨ s < made)) ∧ v' = .int .i64 210 ∧ Ix h' n' D M x L ∧ Chg h n D M h' n' D M) ∨
      (∃ w ∈ L, fM w (key hash pn made) = 0 ∧ w.bZ = 0 ∧ 1 ≤ s ∧ made ≤ s ∧ v' = .int .i64 0 ∧ ∃ D' M', Ix h' n' D' M' x (mP (kP L w) (gQ w s b)) ∧ Chg h n D M h' n' D' M') := by
  have hs0 := hs
  obtain ⟨⟨S, s0, rS, perm⟩, rL, ok⟩ := hs
  have s00 := s0
  obtain ⟨vl, vs, xl, xs, iv, mx, ml, ms, mn⟩ := s00
  refine bL ff36 fi36 ?_
  simp only [V9, Try.f36, Option.getD_some, List.replicate, aC, execOp, opd, nth, ended, aT, aU, Nat.reduceAdd, Nat.reduceSub, gL, gI]
  refine dA (v := .agg (aY hash pn)) iK rfl hf fun H1 r1 o1 f1 => ?_
  simp only [aC, execOp, opd, aD, put, nth]
  refine dA (v := .agg (b.map u8)) mM rfl f1 fun H2 r2 o2 f2 => ?_
  have old2 : Old h H2 n := fun j hj => by rw [o2 j (by omega), o1 j (by omega)]
  have r1 := r1.aX (o2 n (by omega))
  simp only [aC, fgr, hkr, execOp, opd, bG, ofValue, aD, put, nth, aB, aL, aE, gL]
  refine eL (f73 x _ true H2 (n + 1 + 1) (iv.row.aX (old2 x iv.xn)) rfl) ?_
  simp only [aC, fgr, execOp, opd, aD, put, nth, aB, gB]
  have hld : Rd (load env 28 (.ptr n 0)) H2 (n + 1 + 1) [n] (.agg (aY hash pn)) := Row.whole r1 iK rfl (cA hl)
  rw [aM hld]
  simp only [aC, hkr, execOp, opd, bG, aD, put, nth, aL, aE, gL]
  have s2 := s0.old (n' := n + 1 + 1) (by omega) old2
  refine bF f2 (f76 x hash pn made hl L S D M H2 _ s2 rL (by omega) f2) fun v3 h3 n3 hn3 f3 ⟨hh, o3⟩ => ?_
  have old3 : Old h h3 n := fun j hj => by rw [o3 j (by omega), old2 j hj]
  have ix3 : Ix h3 n3 D M x L := hs0.old (by omega) old3
  rcases hh with ⟨hno, e2⟩ | ⟨id, sw, w, hw, hkey, e2, a, d1, d2⟩
  · subst e2
    simp only [aC, tyr, fgr, execOp, opd, ofValue, aD, put, nth, aB, und, bor, bE, dG, dU, bC, branch, bJ, equal, cZ, cH, cJ, gL, gB]
    exact .inl ⟨fun w hw he => absurd he (hno w hw), ix3, .of f3 (by omega) old3⟩
  subst e2
  have uq : ∀ u ∈ L, fM u (key hash pn made) = 0 → u = w := fun u hu he => kC rL hu hw (by
    have := oL.eqr (d := u) hkey
    show fM u w = 0
    omega)
  have okw := ok w hw
  by_cases c1 : w.bZ = 0
  rotate_left
  · simp only [aC, tyr, fgr, execOp, opd, ofValue, aD, put, nth, aB, und, sizeOf, bor, bE, dG, dU, nilCheck, aZ, aS, fieldAddr, bJ, equal, cZ, cH, cJ, gL, gB, gI]
    rw [aM (dD a.row okw.1)]
    simp only [aC, fgr, execOp, opd, ofValue, aD, put, nth, aB, bor, aJ, aK, intOp, bC, branch, c1, gL, gB, gI]
    exact .inl ⟨fun u hu he => by rw [uq u hu he]; exact .inl c1, ix3, .of f3 (by omega) old3⟩
  by_cases c2 : s < 1
  · simp only [aC, tyr, fgr, execOp, opd, ofValue, aD, put, nth, aB, und, sizeOf, bor, bE, dG, dU, nilCheck, aZ, aS, fieldAddr, bJ, equal, cZ, cH, cJ, gL, gB, gI]
    rw [aM (dD a.row okw.1)]
    simp only [aC, fgr, execOp, opd, ofValue, aD, put, nth, aB, bor, aJ, aK, intOp, bC, branch, bne_self_eq_false, c1, c2, gL, gB]
    exact .inl ⟨fun u hu he => by simp, ix3, .of f3 (by omega) old3⟩
  by_cases c3 : s < made
  · simp only [aC, tyr, fgr, execOp, opd, ofValue, aD, put, nth, aB, und, sizeOf, bor, bE, dG, dU, nilCheck, aZ, aS, fieldAddr, bJ, equal, cZ, cH, cJ, gL, gB, gI]
    rw [aM (dD a.row okw.1)]
    simp only [aC, fgr, execOp, opd, ofValue, aD, put, nth, aB, bor, aJ, aK, intOp, bC, branch, bne_self_eq_false, c1, c2, c3, gL, gB]
    exact .inl ⟨fun u hu he => by simp, ix3, .of f3 (by omega) old3⟩
  simp only [aC, tyr, fgr, execOp, opd, ofValue, aD, put, nth, aB, und, sizeOf, bor, bE, dG, dU, nilCheck, aZ, aS, fieldAddr, bJ, equal, cZ, cH, cJ, gL, gB, gI]
  rw [aM (dD a.row okw.1)]
  simp only [aC, fgr, execOp, opd, ofValue, aD, put, nth, aB, bor, aJ, aK, intOp, bC, branch, nilCheck, bne_self_eq_false, c1, c2, c3, gL, gB]
  rw [aM (eN a.row okw.1)]
  simp only [aC, execOp, aD, put]
  rw [cD dY rfl]
  simp only [aC, execOp, opd, aD, put, nth, cel]
  refine dQ (v := .agg (aO w sw)) dY rfl (bM okw.1.h okw.1.b) (cL a.s.kind.2.1) f3 fun H4 r4 o4 f4 => ?_
  have r2 : Row H4 (n + 1) (b.map u8) := (r2.aX (o3 (n + 1) (by omega))).aX (o4 (n + 1) (by omega))
  obtain ⟨e4, r4⟩ := r4
  simp only [aC, fgr, aD, aB]
  refine cG ⟨rfl, ?_⟩
  simp only [aF, aI, execOp, opd, aD, put, nth, gI]
  have hld2 : Rd (load env 25 (.ptr (n + 1) 0)) H4 (n3 + 1) [n + 1] (.agg (b.map u8)) := Row.whole r2 mM rfl (by simp [hbl])
  rw [bP hld2]
  simp only [aF, aI, aC, tyr, execOp, opd, aD, put, nth, und, sizeOf, aZ, aS, fieldAddr, Nat.reduceAdd, gL, gI]
  refine jH (Row.write (v := .int .i64 s) r4 ti3 rfl (by show 37 + 1 ≤ (aO w sw).length; rw [bM okw.1.h okw.1.b]; decide) rfl) ?_
  simp only [aF, aI, aC, tyr, execOp, opd, aD, put, nth, und, sizeOf, cel, aZ, aS, fieldAddr, Nat.reduceAdd, gL, gI]
  have w1 : cB (aO w sw) 37 [a9.int .i64 s] = aO { w with bZ := s } sw := mB okw.1.h s
  rw [w1]
  refine jH (Row.write (v := .agg (b.map u8)) (aW _ _ _) mM (by simp [a9.cells, hbl]) (by show 38 + 32 ≤ _; rw [bM (v := { w with bZ := s }) okw.1.h okw.1.b]; decide) (sV b)) ?_
  have w2 : cB (aO { w with bZ := s } sw) 38 (a9.agg (b.map u8)).cells = aO (gQ w s b) sw := qL (w := { w with bZ := s }) okw.1.h okw.1.b b hbl
  rw [w2]
  simp only [bY, aC, fgr, execOp, opd, aD, put, nth, aB, Nat.reduceAdd]
  refine ⟨(by (try simp (disch := omega) only [dF, List.all_cons, List.all_nil, gB, gF]); repeat' (first | rfl | exact (Bool.or_eq_true _ _).mpr (.inr rfl) | refine (Bool.and_eq_true _ _).mpr ⟨?_, ?_⟩)), ?_⟩
  have f5 : bO (upd (upd H4 n3 (some (Blk.row (bQ.l (aO { w with bZ := s } sw)) e4))) n3 (some (Blk.row (bQ.l (aO (gQ w s b) sw)) e4))) (n3 + 1) := (f4.upd (by omega)).upd (by omega)
  obtain ⟨H5, hH5⟩ : ∃ H5, H5 = upd (upd H4 n3 (some (Blk.row (bQ.l (aO { w with bZ := s } sw)) e4))) n3 (some (Blk.row (bQ.l (aO (gQ w s b) sw)) e4)) := ⟨_, rfl⟩
  have o5 : ∀ j, j ≠ n3 → H5 j = h3 j := fun j hj => by rw [hH5, aP _ _ hj, aP _ _ hj, o4 j hj]
  have r5 : Row H5 n3 (aO (gQ w s b) sw) := by rw [hH5]; exact Row.new _ _ _ _
  rw [← hH5] at f5
  rw [← hH5]
  clear hH5
  have ov5 : (gQ w s b).Ok := ⟨okw.1.h, hbl⟩
  rw [aM (eN r5 ov5)]
  simp only [aC, hkr, execOp, opd, bG, aD, put, nth, aL, aE, gL]
  have old5 : Old h H5 n := fun j hj => by rw [o5 j (by omega), old3 j hj]
  have ix5 : Ix H5 (n3 + 1) D M x L := hs0.old (by omega) old5
  have a5 : At H5 id sw w := a.aX (o5 id (by have := iv.dn id d1; omega)) (fun j q => o5 j (by have := iv.dn j (d2 j q); omega))
  refine bF f5 (f80 x id sw w (gQ w s b) L D M H5 (n3 + 1) ix5 hw a5 d1 d2 (oL.refl w) rfl ov5 hc f5) fun v6 h6 n6 hn6 f6 ⟨e6, D', M', ix6, c6⟩ => ?_
  subst e6
  simp only [aC, fgr, execOp, opd, ofValue, aD, put, nth, aB, gB]
  exact .inr ⟨w, hw, hkey, c1, by omega, by omega, D', M', ix6, (Chg.of f5 (by omega) old5).trans c6⟩
def z32 : List UInt8 := List.replicate 32 0
theorem b25 : build env 25 [] = M.pure (.agg (z32.map u8)) := rfl
theorem f38 (x : Nat) (hash : List UInt8) (pn made : Int) (hl : hash.length = 32) (L : List Ver) (D M : Nat → Prop) (h : Hp) (n : Nat) (hs : Ix h n D M x L) (hc : L.length ≤ 900000) (hf : bO h n) :
    Wp (bD env (evalW env) 38 [.ptr x 0, .agg (aY hash pn), .int .i64 made]) h n fun v' h' n' =>
      ((∀ w ∈ L, fM w (key hash pn made) = 0 → w.bZ = 0) ∧ v' = .int .i64 210 ∧ Ix h' n' D M x L ∧ Chg h n D M h' n' D M) ∨
      (∃ w ∈ L, fM w (key hash pn made) = 0 ∧ w.bZ ≠ 0 ∧ v' = .int .i64 0 ∧ ∃ D' M', Ix h' n' D' M' x (mP (kP L w) (gQ w 0 z32)) ∧ Chg h n D M h' n' D' M') := by
  have hs0 := hs
  obtain ⟨⟨S, s0, rS, perm⟩, rL, ok⟩ := hs
  have s00 := s0
  obtain ⟨vl, vs, xl, xs, iv, mx, ml, ms, mn⟩ := s00
  refine bL ff38 fi38 ?_
  simp only [V7, Try.f38, Option.getD_some, List.replicate, aC, execOp, opd, nth, ended, aT, aU, Nat.reduceAdd, Nat.reduceSub, gL, gI]
  refine dA (v := .agg (aY hash pn)) iK rfl hf fun H2 r1 o1 f2 => ?_
  have old2 : Old h H2 n := fun j hj => by rw [o1 j (by omega)]
  simp only [aC, fgr, hkr, execOp, opd, bG, ofValue, aD, put, nth, aB, aL, aE, gL]
  refine eL (f73 x _ true H2 (n + 1) (iv.row.aX (old2 x iv.xn)) rfl) ?_
  simp only [aC, fgr, execOp, opd, aD, put, nth, aB, gB]
  have hld : Rd (load env 28 (.ptr n 0)) H2 (n + 1) [n] (.agg (aY hash pn)) := Row.whole r1 iK rfl (cA hl)
  rw [aM hld]
  simp only [aC, hkr, execOp, opd, bG, aD, put, nth, aL, aE, gL]
  have s2 := s0.old (n' := n + 1) (by omega) old2
  refine bF f2 (f76 x hash pn made hl L S D M H2 _ s2 rL (by omega) f2) fun v3 h3 n3 hn3 f3 ⟨hh, o3⟩ => ?_
  have old3 : Old h h3 n := fun j hj => by rw [o3 j (by omega), old2 j hj]
  have ix3 : Ix h3 n3 D M x L := hs0.old (by omega) old3
  rcases hh with ⟨hno, e2⟩ | ⟨id, sw, w, hw, hkey, e2, a, d1, d2⟩
  · subst e2
    simp only [aC, tyr, fgr, execOp, opd, ofValue, aD, put, nth, aB, und, bor, bE, dG, dU, bC, branch, bJ, equal, cZ, cH, cJ, gL, gB]
    exact .inl ⟨fun w hw he => absurd he (hno w hw), ix3, .of f3 (by omega) old3⟩
  subst e2
  have uq : ∀ u ∈ L, fM u (key hash pn made) = 0 → u = w := fun u hu he => kC rL hu hw (by
    have := oL.eqr (d := u) hkey
    show fM u w = 0
    omega)
  have okw := ok w hw
  by_cases c1 : w.bZ = 0
  · simp only [aC, tyr, fgr, execOp, opd, ofValue, aD, put, nth, aB, und, sizeOf, bor, bE, dG, dU, nilCheck, aZ, aS, fieldAddr, bJ, equal, cZ, cH, cJ, gL, gB, gI]
    rw [aM (dD a.row okw.1)]
    simp only [aC, fgr, execOp, opd, ofValue, aD, put, nth, aB, bor, aJ, aK, intOp, bC, branch, beq_self_eq_true, c1, gL, gB]
    exact .inl ⟨fun u hu he => by rw [uq u hu he]; exact c1, ix3, .of f3 (by omega) old3⟩
  simp only [aC, tyr, fgr, execOp, opd, ofValue, aD, put, nth, aB, und, sizeOf, bor, bE, dG, dU, nilCheck, aZ, aS, fieldAddr, bJ, equal, cZ, cH, cJ, gL, gB, gI]
  rw [aM (dD a.row okw.1)]
  simp only [aC, fgr, execOp, opd, ofValue, aD, put, nth, aB, bor, aJ, aK, intOp, bC, branch, nilCheck, c1, gL, gB, gI]
  rw [aM (eN a.row okw.1)]
  simp only [aC, execOp, aD, put]
  rw [cD dY rfl]
  simp only [aC, execOp, opd, aD, put, nth, cel]
  refine dQ (v := .agg (aO w sw)) dY rfl (bM okw.1.h okw.1.b) (cL a.s.kind.2.1) f3 fun H4 r4 o4 f4 => ?_
  obtain ⟨e4, r4⟩ := r4
  simp only [aC, tyr, fgr, execOp, opd, ofValue, dE, aD, put, nth, aB, und, sizeOf, aZ, aS, fieldAddr, b25, gL, gI]
  rw [dR (Row.write (v := .int .i64 0) r4 ti3 rfl (by show 37 + 1 ≤ (aO w sw).length; rw [bM okw.1.h okw.1.b]; decide) rfl)]
  simp only [aC, tyr, execOp, opd, aD, put, nth, und, sizeOf, cel, aZ, aS, fieldAddr, gL, gI]
  have w1 : cB (aO w sw) 37 [a9.int .i64 0] = aO { w with bZ := 0 } sw := mB okw.1.h 0
  rw [w1]
  rw [dR (Row.write (v := .agg (z32.map u8)) (aW _ _ _) mM rfl (by show 38 + 32 ≤ _; rw [bM (v := { w with bZ := 0 }) okw.1.h okw.1.b]; decide) (sV z32))]
  have w2 : cB (aO { w with bZ := 0 } sw) 38 (a9.agg (z32.map u8)).cells = aO (gQ w 0 z32) sw := qL (w := { w with bZ := 0 }) okw.1.h okw.1.b z32 rfl
  rw [w2]
  simp only [aC, fgr, execOp, opd, aD, put, nth, aB]
  have f5 : bO (upd (upd H4 n3 (some (Blk.row (bQ.l (aO { w with bZ := 0 } sw)) e4))) n3 (some (Blk.row (bQ.l (aO (gQ w 0 z32) sw)) e4))) (n3 + 1) := (f4.upd (by omega)).upd (by omega)
  obtain ⟨H5, hH5⟩ : ∃ H5, H5 = upd (upd H4 n3 (some (Blk.row (bQ.l (aO { w with bZ := 0 } sw)) e4))) n3 (some (Blk.row (bQ.l (aO (gQ w 0 z32) sw)) e4)) := ⟨_, rfl⟩
  have o5 : ∀ j, j ≠ n3 → H5 j = h3 j := fun j hj => by rw [hH5, aP _ _ hj, aP _ _ hj, o4 j hj]
  have r5 : Row H5 n3 (aO (gQ w 0 z32) sw) := by rw [hH5]; exact Row.new _ _ _ _
  rw [← hH5] at f5
  rw [← hH5]
  clear hH5
  have ov5 : (gQ w 0 z32).Ok := ⟨okw.1.h, rfl⟩
  rw [aM (eN r5 ov5)]
  simp only [aC, hkr, execOp, opd, bG, aD, put, nth, aL, aE, gL]
  have old5 : Old h H5 n := fun j hj => by rw [o5 j (by omega), old3 j hj]
  have ix5 : Ix H5 (n3 + 1) D M x L := hs0.old (by omega) old5
  have a5 : At H5 id sw w := a.aX (o5 id (by have := iv.dn id d1; omega)) (fun j q => o5 j (by have := iv.dn j (d2 j q); omega))
  refine bF f5 (f80 x id sw w (gQ w 0 z32) L D M H5 (n3 + 1) ix5 hw a5 d1 d2 (oL.refl w) rfl ov5 hc f5) fun v6 h6 n6 hn6 f6 ⟨e6, D', M', ix6, c6⟩ => ?_
  subst e6
  simp only [aC, fgr, execOp, opd, ofValue, aD, put, nth, aB, gB]
  exact .inr ⟨w, hw, hkey, c1, D', M', ix6, (Chg.of f5 (by omega) old5).trans c6⟩
structure Vs (h : Hp) (D : Nat → Prop) (cells : List a9) (vs : List Ver) : Prop where
  len : cells.length = vs.length * 70
  at_ : ∀ (j : Nat) (hj : j < vs.length), ∃ sv, (cells.drop (j * 70)).take 70 = aO vs[j] sv ∧ Bytes h sv vs[j].aR ∧ vs[j].Ok ∧ ∀ i, bB sv = some i → D i
theorem Vs.nil (h : Hp) (D : Nat → Prop) : Vs h D [] [] := ⟨rfl, fun j hj => by simp at hj⟩
theorem Vs.mono {h h' : Hp} {D D' : Nat → Prop} {cells : List a9} {vs : List Ver} (p : Vs h D cells vs) (hd : ∀ j, D j → D' j) (hk : ∀ j, D j → h' j = h j) : Vs h' D' cells vs :=
  ⟨p.len, fun j hj => by
    obtain ⟨sv, e, b, o, d⟩ := p.at_ j hj
    exact ⟨sv, e, b.aX (fun i hi => hk i (d i hi)), o, fun i hi => hd i (d i hi)⟩⟩
theorem Vs.snoc {h : Hp} {D : Nat → Prop} {cells : List a9} {vs : List Ver} (p : Vs h D cells vs) {v : Ver} {sv : a9} (hb : Bytes h sv v.aR) (ho : v.Ok) (hd : ∀ i, bB sv = some i → D i) : Vs h D (cells ++ aO v sv) (vs ++ [v]) := by
  have hl := p.len
  have hv := bM (sv := sv) ho.h ho.b
  refine ⟨by simp [hl, hv]; omega, fun j hj => ?_⟩
  by_cases c : j < vs.length
  · obtain ⟨s2, e, b, o, d⟩ := p.at_ j c
    refine ⟨s2, ?_, ?_, ?_, d⟩
    · rw [List.drop_append_of_le_length (by omega), List.take_append_of_le_length (by rw [List.length_drop]; omega), e, List.getElem_append_left c]
    · rw [List.getElem_append_left c]; exact b
    · rw [List.getElem_append_left c]; exact o
  · have e : j = vs.length := by simp at hj; omega
    subst e
    refine ⟨sv, ?_, ?_, ?_, hd⟩
    · rw [← hl, List.drop_left, List.take_of_length_le (by omega)]; simp
    · simpa using hb
    · simpa using ho
theorem u43 : und env 43 = M.pure (.slice 31) := rfl
theorem Q9 : sizeOf env 31 = M.pure 70 := rfl
theorem HR {X : List a9} (hX : X.length = 70) : buildSlice env 43 1 [(0, .agg X)] = (newRow env 31 X).bind fun id => M.pure (.sl id 0 1 (some 1) 70) := by
  have e1 : fill (fun k => some (k * 70, 70)) (fQ fG.i.zero.cells 1) [(0, .agg X)] = some X := by
    have : fQ fG.i.zero.cells 1 = [] ++ fG.i.zero.cells ++ [] := rfl
    rw [this, hO (off := 0) (sz := 70) (pre := []) (mid := fG.i.zero.cells) (post := []) (v := .agg X) (rest := []) rfl rfl rfl hX rfl]
    simp [fill, a9.cells]
  have e2 : buildSlice env 43 1 [(0, .agg X)] = (aZ "buildSlice" (fill (fun k => some (k * 70, 70)) (fQ fG.i.zero.cells 1) [(0, .agg X)])).bind fun cs => (newRow env 31 cs).bind fun id => M.pure (.sl id 0 1 (some 1) 70) := rfl
  rw [e2, e1]
  rfl
def IsF (F : a9) (is : Ver → Bool) (h0 : Hp) (n0 : Nat) : Prop := ∀ (h : Hp) (n id : Nat) (sv : a9) (v : Ver), n0 ≤ n → Old h0 h n0 → AtN h n id sv v → bO h n → Wp (jK env (evalW env) F [.ptr id 0]) h n fun v' h' n' => v' = .bool (is v) ∧ Old h h' n
theorem TP (Q : eJ) (ks : List Kf) (F : a9) (is : Ver → Bool) (v : a9) (cnt : Nat) (xs : List a9) (vs : List Ver) (D : Nat → Prop) (h0 : Hp) (n0 : Nat) (hF : IsF F is h0 n0) (hc : cnt ≤ 1000000) (hv : Rds h0 1 v cnt xs) (hvn : ∀ j, bB v = some j → j < n0) (hp : Ps h0 D xs vs) (hD : ∀ j, D j → j < n0) (hsl : ∀ v ∈ vs, v.aR.length ≤ 1000000)
    (hT : ∀ (h : Hp) (n : Nat) (acc : a9) (cells : List a9) (x4 x7 x11 x16 : a9), Lst h 31 70 acc (vs.filter is).length cells → Vs h (fun j => n0 ≤ j ∧ j < n ∧ bB acc ≠ some j) cells (vs.filter is) → (∀ j, bB acc = some j → n0 ≤ j) → n0 ≤ n → bO h n → Old h0 h n0 →
      dV env 74 none Q ks (.exit 0) (v :: F :: a9.aA :: a9.aA :: x4 :: acc :: a9.aA :: x7 :: v :: .int .i64 (cnt : Nat) :: .int .i64 (cnt : Nat) :: x11 :: a9.aA :: a9.aA :: a9.aA :: a9.aA :: x16 :: a9.aA :: a9.aA :: a9.aA :: a9.aA :: a9.aA :: a9.aA :: a9.aA :: a9.aA :: a9.aA :: []) h n) :
    ∀ (m i : Nat) (h : Hp) (n : Nat) (acc : a9) (cells : List a9) (x4 x7 x11 x16 : a9), i + m = cnt → Lst h 31 70 acc ((vs.take i).filter is).length cells → Vs h (fun j => n0 ≤ j ∧ j < n ∧ bB acc ≠ some j) cells ((vs.take i).filter is) → (∀ j, bB acc = some j → n0 ≤ j) → n0 ≤ n → bO h n → Old h0 h n0 →
      Run env 74 none Q (.loop DC) ks (v :: F :: a9.aA :: a9.aA :: x4 :: acc :: a9.aA :: x7 :: v :: .int .i64 (cnt : Nat) :: .int .i64 (i : Nat) :: x11 :: a9.aA :: a9.aA :: a9.aA :: a9.aA :: x16 :: a9.aA :: a9.aA :: a9.aA :: a9.aA :: a9.aA :: a9.aA :: a9.aA :: a9.aA :: a9.aA :: []) h n := by
  have hcl : cnt = vs.length := by have := hv.length; have := hp.len; omega
  intro m
  induction m with
  | zero =>
    intro i h n acc cells x4 x7 x11 x16 hm ha hV hi hn hf ho
    have : i = cnt := by omega
    subst this
    rw [cF]
    have hcc : ¬ (((i : Nat) : Int) < ((i : Nat) : Int)) := by omega
    simp only [DC, bS, Try.f74, Option.getD_some, aC, fgr, execOp, opd, aD, put, nth, aB, bor, aJ, aK, intOp, List.getD_cons_zero, hcc, gL, gB]
    rw [hcl, List.take_length] at ha hV
    exact hT h n acc cells _ _ _ _ ha hV hi hn hf ho
  | succ m ih =>
    intro i h n acc cells x4 x7 x11 x16 hm ha hV hi hn hf ho
    rw [cF]
    have hil : i < cnt := by omega
    have hcc : (((i : Nat) : Int) < ((cnt : Nat) : Int)) := by omega
    have hv' := hv.aX (h' := h) (fun j hj => ho j (hvn j hj))
    have hp' := hp.mono (D' := D) (fun _ q => q) (fun j hj => ho j (hD j hj))
    obtain ⟨id, sv, hx, a, d1, d2⟩ := hp'.get (j := i) (by omega)
    have hidx := hv'.idx (E := env) u95 pX (kk := .i64) (z := ((i : Nat) : Int)) (j := i) rfl hil (h' := h) (n' := n)
    have hld := hv'.load (E := env) iV rfl (k := i * 1) (n := n) (by rw [Nat.mul_one]; exact hx)
    have atn : AtN h n id sv (vs[i]'(by omega)) := ⟨a, by have := hD _ d1; omega, fun q hq => by have := hD _ (d2 q hq); omega⟩
    have w1 : IntKind.i64.wrap (((i : Nat) : Int) + 1) = ((i + 1 : Nat) : Int) := by rw [w64 (by omega) (by omega)]; omega
    have htk : vs.take (i + 1) = vs.take i ++ [vs[i]'(by omega)] := by rw [List.take_add_one, List.getElem?_eq_getElem (by omega)]; rfl
    simp only [DC, bS, Try.f74, Option.getD_some, aC, fgr, execOp, opd, aD, put, nth, aB, bor, aJ, aK, intOp, List.getD_cons_zero, hcc, gL, gB]
    rw [aM hidx]
    simp only [aC, execOp, opd, aD, put, nth]
    rw [aM hld]
    simp only [aC, fgr, execOp, opd, bG, aD, put, nth, aB, aL]
    refine bF hf (hF h n id sv _ hn ho atn hf) fun v1 h1 n1 hn1 f1 ⟨e1, o1⟩ => ?_
    subst e1
    have ho1 : Old h0 h1 n0 := fun q hq => (o1 q (by omega)).trans (ho q hq)
    have ha1 := ha.aX (h' := h1) (fun j q => o1 j (ha.live hf q))
    have hV1 := hV.mono (h' := h1) (D' := fun j => n0 ≤ j ∧ j < n1 ∧ bB acc ≠ some j) (fun j q => ⟨q.1, by omega, q.2.2⟩) (fun j q => o1 j q.2.1)
    have at1 := atn.old hn1 o1
    cases hq : is (vs[i]'(by omega)) with
    | false =>
      simp only [aC, fgr, execOp, opd, ofValue, aD, put, nth, aB, bor, aJ, aK, intOp, bU, w1, gB]
      exact ih (i + 1) h1 n1 acc cells _ _ _ _ (by omega) (by rw [htk, List.filter_append]; simpa [hq] using ha1) (by rw [htk, List.filter_append]; simpa [hq] using hV1) hi (by omega) f1 ho1
    | true =>
      simp only [aC, fgr, execOp, opd, aD, put, nth, aB, nilCheck]
      rw [aM (eN at1.row at1.ok)]
      simp only [aC, hkr, execOp, opd, bG, aD, put, nth, aL, aE, gL]
      refine bF f1 (f77 _ sv at1.ok h1 n1 at1.s at1.sn (hsl _ (List.getElem_mem _)) f1) fun v2 h2 n2 hn2 f2 ⟨s', e2, b2, i2, o2⟩ => ?_
      subst e2
      simp only [aC, tyr, execOp, opd, bG, dE, aD, put, nth, aL, builtin, fC, newRow, HR (bM at1.ok.h at1.ok.b)]
      obtain ⟨H3, hH3⟩ : ∃ H3, H3 = upd h2 n2 (some (Blk.row (bQ.l (aO (vs[i]'(by omega)) s')) 31)) := ⟨_, rfl⟩
      have f3 : bO H3 (n2 + 1) := by rw [hH3]; exact f2.new
      have o3 : ∀ j, j ≠ n2 → H3 j = h2 j := fun j hj => by rw [hH3, aP _ _ hj]
      have r3 : H3 n2 = some (Blk.row (bQ.l (aO (vs[i]'(by omega)) s')) 31) := by rw [hH3, aW]
      rw [← hH3]
      clear hH3
      have o13 : Old h1 H3 n1 := fun j hj => by rw [o3 j (by omega), o2 j hj]
      have ha3 := ha1.aX (h' := H3) (fun j q => o13 j (ha1.live f1 q))
      have hlen : ((vs.take i).filter is).length ≤ 1000000 := by
        have h1 := List.length_filter_le is (vs.take i)
        have h2 : (vs.take i).length ≤ vs.length := by rw [List.length_take]; omega
        omega
      refine fU (i := fG.i) (e := 31) ha3 (nE (cnt := 1) r3 (by rw [bM at1.ok.h at1.ok.b]; rfl)) u43 u43 dY (cL b2.kind.2.1) (by decide) (by show 2 * (_ + 1) * 128 ≤ _; omega) (by omega) f3 ?_
      intro acc' h4 n4 hn4 f4 l4 i4 o4
      simp only [aC, fgr, execOp, opd, ofValue, aD, put, nth, aB, bor, aJ, aK, intOp, bU, w1, gB]
      have i4' : ∀ j, bB acc' = some j → n0 ≤ j := fun j q => by
        rcases i4 with w | ⟨w, _⟩
        · rw [w] at q; exact hi j q
        · rw [w] at q; injection q with q; omega
      have accl : ∀ j, bB acc = some j → j < n1 := fun j q => ha1.live f1 q
      have keep4 : ∀ j, j < n2 + 1 → bB acc ≠ some j → h4 j = H3 j := fun j hj hn => o4 j hj hn
      have hne : ∀ j, j < n2 + 1 → bB acc ≠ some j → bB acc' ≠ some j := fun j hj hn q => by
        rcases i4 with w | ⟨w, _⟩
        · rw [w] at q; exact hn q
        · rw [w] at q; injection q with q; omega
      have hV4 := hV1.mono (h' := h4) (D' := fun j => n0 ≤ j ∧ j < n4 ∧ bB acc' ≠ some j) (fun j q => ⟨q.1, by omega, hne j (by omega) q.2.2⟩) (fun j q => by rw [keep4 j (by omega) q.2.2, o13 j q.2.1])
      have an2 : ∀ j, n1 ≤ j → bB acc ≠ some j := fun j hj q => by have := accl j q; omega
      have hV5 := hV4.snoc (b2.aX (h' := h4) fun j q => by rw [keep4 j (by have := i2 j q; omega) (an2 j (i2 j q).1), o3 j (by have := i2 j q; omega)]) at1.ok (fun j q => ⟨by have := i2 j q; omega, by have := i2 j q; omega, hne j (by have := i2 j q; omega) (an2 j (i2 j q).1)⟩)
      have hfl : (vs.take (i + 1)).filter is = (vs.take i).filter is ++ [vs[i]'(by omega)] := by rw [htk, List.filter_append]; simp [hq]
      have ho4 : Old h0 h4 n0 := fun j hj => by rw [keep4 j (by omega) (fun q => by have := hi j q; omega), o13 j (by omega)]; exact ho1 j hj
      exact ih (i + 1) h4 n4 acc' _ _ _ _ _ (by omega) (by rw [hfl, List.length_append]; exact l4) (by rw [hfl]; exact hV5) i4' (by omega) f4 ho4
def VL (h : Hp) (n0 n : Nat) (v : a9) (vs : List Ver) : Prop := ∃ cells, Lst h 31 70 v vs.length cells ∧ Vs h (fun j => n0 ≤ j ∧ j < n ∧ bB v ≠ some j) cells vs ∧ ∀ j, bB v = some j → n0 ≤ j ∧ j < n
theorem f74 (F : a9) (is : Ver → Bool) (v : a9) (cnt : Nat) (xs : List a9) (vs : List Ver) (D : Nat → Prop) (h : Hp) (n : Nat) (hF : IsF F is h n) (hc : cnt ≤ 1000000) (hv : Rds h 1 v cnt xs) (hvn : ∀ j, bB v = some j → j < n) (hp : Ps h D xs vs) (hD : ∀ j, D j → j < n) (hsl : ∀ v ∈ vs, v.aR.length ≤ 1000000) (hf : bO h n) :
    Wp (bD env (evalW env) 74 [v, F]) h n fun v' h' n' => VL h' n n' v' (vs.filter is) ∧ Old h h' n := by
  refine bL ff74 fi74 ?_
  simp only [UO, Try.f74, Option.getD_some, List.replicate, aC, fgr, execOp, opd, bG, ofValue, aD, put, nth, aB, aL, builtin, dH, ended, aT, aU, Nat.reduceAdd, Nat.reduceSub, hv.cY u95, gL, gI]
  refine TP _ _ F is v cnt xs vs D h n hF hc hv hvn hp hD hsl ?_ cnt 0 h n .aV [] _ _ _ _ (by omega) (by rw [List.take_zero]; exact .nil) (by rw [List.take_zero]; exact Vs.nil _ _) (fun j q => by cases q) (Nat.le_refl _) hf (Old.refl _ _)
  intro h1 n1 acc cells x4 x7 x11 x16 hl hV hi hn hf1 ho
  simp only [aC, fgr, execOp, opd, aD, put, nth, aB, gB]
  exact ⟨⟨cells, hl, hV, fun j q => ⟨hi j q, hl.live hf1 q⟩⟩, ho⟩
theorem GU (h0 : Hp) (n0 : Nat) : IsF (.fn (.func 75) [] []) (fun _ => true) h0 n0 := by
  intro h n id sv v hn ho ha hf
  simp only [hkr, aE, List.nil_append, List.append_nil]
  exact wp_mono (f75 h n _) fun v' h' n' ⟨e1, e2, e3⟩ => ⟨e1, by subst e2; exact Old.refl _ _⟩
theorem f32 (x : Nat) (L : List Ver) (D M : Nat → Prop) (h : Hp) (n : Nat) (hs : Ix h n D M x L) (hc : L.length ≤ 1000000) (hf : bO h n) :
    Wp (bD env (evalW env) 32 [.ptr x 0]) h n fun v' h' n' => VL h' n n' v' L ∧ Old h h' n := by
  obtain ⟨⟨S, s0, rS, perm⟩, rL, ok⟩ := hs
  obtain ⟨vl, vs, xl, xs, iv, mx, ml, ms, mn⟩ := s0
  refine bL ff32 fi32 ?_
  simp only [VC, Try.f32, Option.getD_some, List.replicate, aC, fgr, hkr, execOp, opd, bG, ofValue, aD, put, nth, aB, aL, aE, ended, aT, aU, Nat.reduceSub, gL, gI]
  refine eL (f73 x _ true h n iv.row rfl) ?_
  simp only [aC, tyr, fgr, execOp, opd, aD, put, nth, aB, und, sizeOf, nilCheck, aZ, aS, fieldAddr, gL, gB, gI]
  rw [aM (iv.row.one (off := 1) rfl pZ rfl)]
  simp only [aC, hkr, execOp, opd, bG, aD, put, nth, aL, aE, gL]
  refine bF hf (f74 _ _ vl L.length xl L D h n (GU h n) hc iv.l.rds (fun j q => (mn j (ml j q)).1) iv.lp iv.dn (fun v hv => (ok v hv).2) hf) fun v1 h1 n1 hn1 f1 ⟨l1, o1⟩ => ?_
  simp only [aC, fgr, execOp, opd, aD, put, nth, aB, gB]
  rw [show L.filter (fun _ => true) = L from List.filter_eq_self.2 fun _ _ => rfl] at l1
  exact ⟨l1, o1⟩
def yes (b : Bool) (v : a9) : Prop := v = .gG b ∨ v = .bool b
theorem OE (Q : eJ) (ks : List Kf) (Y : a9) (v : a9) (cnt p : Nat) (xs : List a9) (vs : List Ver) (D : Nat → Prop) (P : Nat → Hp → Nat → Prop) (R : Hp → Nat → Prop) (y1 y2 : a9) (hc : cnt ≤ 1000000) (hpc : p ≤ cnt)
    (hP : ∀ k h n, P k h n → Rds h 1 v cnt xs ∧ Ps h D xs vs ∧ bO h n)
    (hY : ∀ (k : Nat) (hk : k < vs.length) (id : Nat) (sv : a9) (h : Hp) (n : Nat), p ≤ k → P k h n → xs[k]? = some (.ptr id 0) → At h id sv vs[k] → D id → (∀ j, bB sv = some j → D j) → Wp (jK env (evalW env) Y [.ptr id 0]) h n fun v' h' n' => (yes true v' ∧ P (k + 1) h' n') ∨ (yes false v' ∧ R h' n'))
    (hE : ∀ (h : Hp) (n : Nat) (tm : List a9), P cnt h n → dV env 109 none Q ks (.exit 0) tm h n)
    (hR : ∀ (h : Hp) (n : Nat) (tm : List a9), R h n → dV env 109 none Q ks .ret tm h n) :
    ∀ (m i : Nat) (h : Hp) (n : Nat) (x4 x7 x22 x28 : a9), p + i + m = cnt → P (p + i) h n → Run env 109 none Q (.loop A3) ks (Y :: y1 :: y2 :: a9.aA :: x4 :: a9.aA :: a9.aA :: x7 :: a9.aA :: a9.aA :: a9.aA :: a9.aA :: a9.aA :: a9.aA :: a9.aA :: a9.aA :: a9.aA :: a9.aA :: a9.aA :: kA p cnt v :: .int .i64 (cnt - p : Nat) :: .int .i64 (i : Nat) :: x22 :: a9.aA :: a9.aA :: a9.aA :: a9.aA :: a9.aA :: x28 :: a9.aA :: []) h n := by
  intro m
  induction m with
  | zero =>
    intro i h n x4 x7 x22 x28 hm hp
    rw [cF]
    have hcc : ¬ (((i : Nat) : Int) < ((cnt - p : Nat) : Int)) := by omega
    simp only [A3, bS, Try.f109, Option.getD_some, aC, fgr, execOp, opd, aD, put, nth, aB, bor, aJ, aK, intOp, List.getD_cons_zero, hcc, gL, gB]
    exact hE h n _ (by rw [show cnt = p + i by omega]; exact hp)
  | succ m ih =>
    intro i h n x4 x7 x22 x28 hm hp
    rw [cF]
    obtain ⟨hv, hps, hf⟩ := hP _ _ _ hp
    have hcl : cnt = vs.length := by have := hv.length; have := hps.len; omega
    have hil : i < cnt - p := by omega
    have hcc : (((i : Nat) : Int) < ((cnt - p : Nat) : Int)) := by omega
    have hsub := hv.sub (lo := p) (hi := cnt) hpc (Nat.le_refl _)
    obtain ⟨id, sv, hx, a, d1, d2⟩ := hps.get (j := p + i) (by omega)
    have hidx := hsub.idx (E := env) u95 pX (kk := .i64) (z := ((i : Nat) : Int)) (j := i) rfl hil (h' := h) (n' := n)
    have hld := hsub.load (E := env) iV rfl (k := i * 1) (n := n) (x := .ptr id 0) (by
      rw [Nat.mul_one, Nat.mul_one, Nat.mul_one, List.getElem?_take, if_pos hil, List.getElem?_drop]; exact hx)
    have w1 : IntKind.i64.wrap (((i : Nat) : Int) + 1) = ((i + 1 : Nat) : Int) := by rw [w64 (by omega) (by omega)]; omega
    simp only [A3, bS, Try.f109, Option.getD_some, aC, fgr, execOp, opd, aD, put, nth, aB, bor, aJ, aK, intOp, List.getD_cons_zero, hcc, gL, gB]
    rw [aM hidx]
    simp only [aC, execOp, opd, aD, put, nth]
    rw [aM hld]
    simp only [aC, fgr, execOp, opd, bG, aD, put, nth, aB, aL]
    refine bF hf (hY (p + i) (by omega) id sv h n (by omega) hp hx a d1 d2) fun v1 h1 n1 hn1 f1 hh => ?_
    rcases hh with ⟨e1 | e1, hp1⟩ | ⟨e1 | e1, hr1⟩
    · subst e1
      simp only [aC, fgr, execOp, opd, ofValue, aD, put, nth, aB, bor, aJ, aK, intOp, bU, unOp, w1, gB]
      exact ih (i + 1) h1 n1 _ _ _ _ (by omega) hp1
    · subst e1
      simp only [aC, fgr, execOp, opd, ofValue, aD, put, nth, aB, bor, aJ, aK, intOp, bU, unOp, w1, gB]
      exact ih (i + 1) h1 n1 _ _ _ _ (by omega) hp1
    · subst e1
      simp only [aC, fgr, execOp, opd, aD, put, nth, aB, unOp, gB]
      exact hR h1 n1 _ hr1
    · subst e1
      simp only [aC, fgr, execOp, opd, aD, put, nth, aB, unOp, gB]
      exact hR h1 n1 _ hr1
theorem f109 (o : Bool) (Y : a9) (b1 b2 x off : Nat) (cs : List a9) (v : a9) (t : Nat) (st : a9) (tv : Ver) (cnt : Nat) (xs : List a9) (vs : List Ver) (D : Nat → Prop) (P : Nat → Hp → Nat → Prop) (R : Hp → Nat → Prop) (h : Hp) (n : Nat)
    (hb1 : Row h b1 [.ptr x off]) (hb2 : Row h b2 [.ptr t 0]) (hr : Row h x cs) (hc0 : cs[off]? = some v) (hc1 : cs[off + 1]? = some (fo o)) (hc : cnt ≤ 1000000) (hv : Rds h 1 v cnt xs) (hro : Roomy v) (hvn : ∀ j, bB v = some j → j < n) (hp : Ps h D xs vs) (hD : ∀ j, D j → j < n) (ht : AtN h n t st tv) (hmono : HX o vs tv) (hf : bO h n)
    (hn1 : b1 < n) (hxn : x < n)
    (hP : ∀ k h n, P k h n → Rds h 1 v cnt xs ∧ Ps h D xs vs ∧ bO h n)
    (hS : ∀ p h' n', Pos o vs tv p → n ≤ n' → bO h' n' → Old h h' n → P p h' n')
    (hY : ∀ (p k : Nat) (hk : k < vs.length) (id : Nat) (sv : a9) (h : Hp) (n : Nat), Pos o vs tv p → p ≤ k → P k h n → xs[k]? = some (.ptr id 0) → At h id sv vs[k] → D id → (∀ j, bB sv = some j → D j) → Wp (jK env (evalW env) Y [.ptr id 0]) h n fun v' h' n' => (yes true v' ∧ P (k + 1) h' n') ∨ (yes false v' ∧ R h' n')) :
    Wp (bD env (evalW env) 109 [Y, .ptr b1 0, .ptr b2 0]) h n fun v' h' n' => v' = .tup [] ∧ (P cnt h' n' ∨ R h' n') := by
  have hcl : cnt = vs.length := by have := hv.length; have := hp.len; omega
  refine bL aa8 Z6 ?_
  simp only [KV, Try.f109, Option.getD_some, List.replicate, aC, execOp, opd, nth, ended, aT, aU, Nat.reduceAdd, Nat.reduceSub, gL, gB, gI]
  rw [aM (hb1.one (off := 0) rfl IB rfl)]
  simp only [aC, execOp, opd, aD, put, nth]
  rw [aM (hb2.one (off := 0) rfl iV rfl)]
  simp only [aC, hkr, execOp, opd, bG, aD, put, nth, aL, aE, gL]
  refine bF hf (f103 o x off cs v t st tv cnt xs vs D h n hr hc0 hc1 (by omega) hv hvn hp hD ht hmono hf) fun v1 h1 n1 hn1' f1 ⟨p, hpos, e1, o1⟩ => ?_
  subst e1
  have hpc : p ≤ cnt := by have := hpos.le; omega
  have hv1 := hv.aX (h' := h1) (fun j q => o1 j (hvn j q))
  simp only [aC, fgr, execOp, opd, aD, put, nth, aB, extract, aZ, gL]
  rw [aM ((hb1.aX (o1 b1 hn1)).one (off := 0) rfl IB rfl)]
  simp only [aC, tyr, execOp, opd, aD, put, nth, und, sizeOf, nilCheck, aZ, aS, fieldAddr, gL, gI]
  rw [aM ((hr.aX (o1 x hxn)).one hc0 pZ rfl)]
  simp only [aC, execOp, opd, opt, aD, put, nth]
  rw [aM (hv1.zK u95 pX rfl hpc)]
  have hsub := hv1.sub (lo := p) (hi := cnt) hpc (Nat.le_refl _)
  simp only [aC, fgr, execOp, opd, bG, ofValue, aD, put, nth, aB, aL, builtin, dH, hsub.cY u95]
  refine OE _ _ Y v cnt p xs vs D P R _ _ hc hpc hP (fun k hk id sv h n => hY p k hk id sv h n hpos) ?_ ?_ (cnt - p) 0 h1 n1 _ _ _ _ (by omega) (hS p h1 n1 hpos (by omega) f1 o1)
  · intro h2 n2 tm hp2
    simp only [aC, true_and]
    exact .inl hp2
  · intro h2 n2 tm hr2
    simp only [aC, true_and]
    exact .inr hr2
theorem f88 (x off t : Nat) (h : Hp) (n : Nat) : Wp (bD env (evalW env) 88 [.ptr x off, .ptr t 0]) h n fun v' h' n' => v' = .fn (.func 109) [] [.ptr n 0, .ptr (n + 1) 0] ∧ h' = upd (upd h n (some (.row (.l [.ptr x off]) 156))) (n + 1) (some (.row (.l [.ptr t 0]) 128)) ∧ n' = n + 1 + 1 := by
  refine bL ff88 fi88 ?_
  simp only [UB, Try.f88, Option.getD_some, List.replicate, aC, tyr, fgr, execOp, opd, bG, ofValue, aD, put, nth, aB, cel, alloc, newRow, ended, aT, aU, Nat.reduceAdd, Nat.reduceSub, gL, gB, gI]
theorem f81 (x : Nat) (hash : List UInt8) (pn : Int) (h : Hp) (n : Nat) : Wp (bD env (evalW env) 81 [.ptr x 0, .agg (aY hash pn)]) h n fun v' h' n' => v' = .fn (.func 106) [] [.ptr n 0, .ptr (n + 1) 0] ∧ h' = upd (upd h n (some (.row (.l [.ptr x 0]) 56))) (n + 1) (some (.row (.l (aY hash pn)) 28)) ∧ n' = n + 1 + 1 := by
  refine bL ff81 fi81 ?_
  simp only [UH, Try.f81, Option.getD_some, List.replicate, aC, tyr, fgr, execOp, opd, bG, ofValue, aD, put, nth, aB, cel, alloc, newRow, ended, aT, aU, Nat.reduceAdd, Nat.reduceSub, gL, gB, gI]
theorem allM_pure {α : Type} {f : α → M Bool} {g : α → Bool} : ∀ (l : List α), (∀ x ∈ l, f x = M.pure (g x)) → allM f l = M.pure (l.all g)
  | [], _ => rfl
  | x :: l, h => by
    simp only [allM, h x (List.mem_cons_self), bind_pure, allM_pure l fun y hy => h y (List.mem_cons_of_mem _ hy), List.all_cons]
theorem vI {a : List UInt8} {i : Nat} (hi : i < a.length) : part env 5 (a.map u8) i = M.pure (u8 a[i]) := by
  simp only [part, ti5, bind_pure, eK, List.getElem?_map, List.getElem?_eq_getElem hi, Option.map_some, aZ]
theorem eq5 (d : Nat) (x y : UInt8) : equal env (d + 1) 5 (u8 x) (u8 y) = M.pure (x == y) := by
  have : ((x.toNat : Int) == (y.toNat : Int)) = (x == y) := by
    by_cases e : x = y
    · subst e; simp
    · have h2 : ¬ ((x.toNat : Int) = (y.toNat : Int)) := fun q => e (UInt8.toNat_inj.1 (by omega))
      rw [beq_eq_false_iff_ne.2 h2, beq_eq_false_iff_ne.2 e]
  simp only [equal, u8, und, ti5, bind_pure, decide_true]
  rw [this]
theorem LB (d : Nat) (a b : List UInt8) (ha : a.length = 32) (hb : b.length = 32) : equal env (d + 1 + 1) 25 (.agg (a.map u8)) (.agg (b.map u8)) = M.pure (decide (a = b)) := by
  have hq : xS env env.eqs 25 = true := rfl
  have h1 : equal env (d + 1 + 1) 25 (.agg (a.map u8)) (.agg (b.map u8)) = allM (fun i => (part env 5 (a.map u8) (i * 1)).bind fun x => (part env 5 (b.map u8) (i * 1)).bind fun y => equal env (d + 1) 5 x y) (List.range 32) := by
    rw [equal]
    · simp only [und, mM, bind_pure, hq, dU, sizeOf, ti5]
    all_goals (intro k n h; cases h)
  rw [h1, allM_pure (g := fun i => (a.getD i 0 == b.getD i 0)) _ fun i hi => ?_]
  · congr 1
    rw [Bool.eq_iff_iff, List.all_eq_true, decide_eq_true_iff]
    constructor
    · intro h
      apply List.ext_getElem (by omega)
      intro i h1 h2
      have := h i (List.mem_range.2 (by omega))
      rw [List.getD_eq_getElem?_getD, List.getD_eq_getElem?_getD, List.getElem?_eq_getElem h1, List.getElem?_eq_getElem h2] at this
      simpa using this
    · rintro rfl i _
      simp
  · have hi := List.mem_range.1 hi
    rw [Nat.mul_one, vI (by omega), bind_pure, vI (by omega), bind_pure, eq5]
    rw [List.getD_eq_getElem?_getD, List.getD_eq_getElem?_getD, List.getElem?_eq_getElem (by omega), List.getElem?_eq_getElem (by omega)]
    rfl
theorem OW (d : Nat) (h1 h2 : List UInt8) (n1 n2 : Int) (l1 : h1.length = 32) (l2 : h2.length = 32) : equal env (d + 1 + 1 + 1) 28 (.agg (aY h1 n1)) (.agg (aY h2 n2)) = M.pure (decide (h1 = h2) && (n1 == n2)) := by
  have hq : xS env env.eqs 28 = true := rfl
  have p0 : ∀ (hh : List UInt8) (nn : Int), hh.length = 32 → part env 25 (aY hh nn) 0 = M.pure (.agg (hh.map u8)) := fun hh nn hl => by
    simp only [part, mM, bind_pure, eK, List.drop_zero]
    rw [show (aY hh nn).take 32 = hh.map u8 by unfold aY; rw [List.take_append_of_le_length (by simp [hl]), List.take_of_length_le (by simp [hl])]]
  have p1 : ∀ (hh : List UInt8) (nn : Int), hh.length = 32 → part env 26 (aY hh nn) 32 = M.pure (.int .u32 nn) := fun hh nn hl => by
    simp only [part, oD, bind_pure, eK, iC hl, aZ]
  have p2 : equal env (d + 1 + 1) 26 (.int .u32 n1) (.int .u32 n2) = M.pure (n1 == n2) := by
    simp only [equal, und, oD, bind_pure, decide_true]
  rw [equal]
  · simp only [und, iK, bind_pure, hq, dU]
    simp only [allM, show decide ("Tx" = "_") = false from rfl, show decide ("N" = "_") = false from rfl, p0 h1 n1 l1, p0 h2 n2 l2, p1 h1 n1 l1, p1 h2 n2 l2, bind_pure, LB d h1 h2 l1 l2, p2, Bool.and_true]
  all_goals (intro k n h; cases h)
theorem Y6 (h1 h2 : List UInt8) (n1 n2 : Int) (l1 : h1.length = 32) (l2 : h2.length = 32) : binOp env .neq 28 (.agg (aY h1 n1)) (.agg (aY h2 n2)) = M.pure (.bool (!(decide (h1 = h2) && (n1 == n2)))) := by
  have e := OW 97 h1 h2 n1 n2 l1 l2
  show bE env .neq 28 (.agg (aY h1 n1)) (.agg (aY h2 n2)) = _
  unfold bE
  simp only
  unfold bJ
  rw [e, bind_pure]
noncomputable def AN (tm : List a9) : kI := { state := .ready, pending := none, fn := 106, tmps := tm, params := [14], assign := EV, body := EU }
def same (hash : List UInt8) (pn : Int) (v : Ver) : Bool := decide (v.hash = hash) && (v.pn == pn)
def Told (hash : List UInt8) (pn : Int) (L : List Ver) (P : Nat → Nat → Hp → Nat → Prop) (R : Nat → Hp → Nat → Prop) (n0 : Nat) (h : Hp) (n : Nat) : Prop :=
  ∃ nS, n0 ≤ nS ∧ ((∃ k, pos false L (key hash pn 0) ≤ k ∧ P nS k h n ∧ ∀ hk : k < L.length, same hash pn L[k] = false) ∨ R nS h n)
set_option maxHeartbeats 4000000 in
theorem f106 (Y : a9) (c1 c2 x : Nat) (hash : List UInt8) (pn : Int) (hl : hash.length = 32) (L S : List Ver) (D : Nat → Prop) (P : Nat → Nat → Hp → Nat → Prop) (R : Nat → Hp → Nat → Prop) (vl vs : a9) (xl xs : List a9) (h : Hp) (n : Nat)
    (iv : IxV h n D x vl vs xl xs L S) (mn : ∀ j, bB vl = some j → j < n) (rL : dM false L) (hc : L.length ≤ 1000000)
    (hY1 : Y.cells = [Y] ∧ bN Y = true ∧ eD Y = false) (hc1 : Row h c1 [.ptr x 0]) (hc2 : Row h c2 (aY hash pn)) (hn1 : c1 < n) (hn2 : c2 < n) (hf : bO h n)
    (hP : ∀ nS k h n, P nS k h n → Rds h 1 vl L.length xl ∧ Ps h D xl L ∧ bO h n)
    (hS : ∀ h' nS, n ≤ nS → bO h' nS → Old h h' n → P nS (pos false L (key hash pn 0)) h' nS)
    (hst : ∀ nS k h1 n1 i b, n ≤ i → i < nS → P nS k h1 n1 → P nS k (upd h1 i b) n1)
    (hsr : ∀ nS h1 n1 i b, n ≤ i → i < nS → R nS h1 n1 → R nS (upd h1 i b) n1)
    (hY : ∀ (nS k : Nat) (hk : k < L.length) (id : Nat) (sv : a9) (h1 : Hp) (n1 : Nat), n ≤ nS → pos false L (key hash pn 0) ≤ k → P nS k h1 n1 → At h1 id sv L[k] → D id → (∀ j, bB sv = some j → D j) → same hash pn L[k] = true →
      Wp (jK env (evalW env) Y [.ptr id 0]) h1 n1 fun v' h' n' => ((yes true v' ∧ P nS (k + 1) h' n') ∨ (yes false v' ∧ R nS h' n')) ∧ (∀ j, n ≤ j → j < nS → h' j = h1 j) ∧ h' c2 = h1 c2) :
    Wp (bD env (evalW env) 106 [Y, .ptr c1 0, .ptr c2 0]) h n fun v' h' n' => v' = .tup [] ∧ Told hash pn L P R n h' n' := by
  refine bL ab1 Z9 ?_
  simp only [KY, Try.f106, Option.getD_some, List.replicate, aC, execOp, opd, nth, ended, aT, aU, Nat.reduceAdd, Nat.reduceSub, gL, gB, gI]
  refine dA (v := Y) IC hY1.2.2 hf fun H1 r1 o1 f1 => ?_
  rw [hY1.1] at r1
  have old1 : Old h H1 n := fun j hj => o1 j (by omega)
  simp only [aC, fgr, execOp, opd, aD, put, nth, aB]
  rw [aM ((hc1.aX (old1 c1 hn1)).one (off := 0) rfl qA rfl)]
  simp only [aC, hkr, execOp, opd, bG, aD, put, nth, aL, aE, gL]
  refine eL (f73 x _ true H1 (n + 1) (iv.row.aX (old1 x iv.xn)) rfl) ?_
  simp only [aC, fgr, opd, aD, put, nth, aB, Bool.not_true]
  refine cG ⟨rfl, ?_⟩
  simp only [aF, execOp, opd, nth]
  rw [bP ((hc1.aX (old1 c1 hn1)).one (off := 0) rfl qA rfl)]
  simp only [aF, aI, aC, tyr, execOp, opd, aD, put, nth, und, sizeOf, nilCheck, aZ, aS, fieldAddr, Nat.reduceAdd, gL, gI]
  have hld : Rd (load env 28 (.ptr c2 0)) H1 (n + 1) [c2] (.agg (aY hash pn)) := Row.whole (hc2.aX (old1 c2 hn2)) iK rfl (cA hl)
  rw [bP hld]
  have b31 : build env 31 [(0, .agg (aY hash pn))] = M.pure (.agg (aO (key hash pn 0) .aV)) := by
    have h1 : (a9.agg (aY hash pn)).cells.length = 33 := cA hl
    have e1 : ∀ pl : Nat → Option (Nat × Nat), pl 0 = some (0, 33) → fill pl fG.i.zero.cells [(0, .agg (aY hash pn))] = some (aO (key hash pn 0) .aV) := fun pl p0 => by
      rw [z31, hO p0 rfl rfl h1 rfl, List.nil_append]
      simp only [fill]
      congr 1
    have e2 : build env 31 [(0, .agg (aY hash pn))] = (aZ "build" (fill ([(0, 33), (33, 1), (34, 1), (35, 1), (36, 1), (37, 1), (38, 32)][·]?) fG.i.zero.cells [(0, .agg (aY hash pn))])).bind fun cs => M.pure (.agg cs) := rfl
    rw [e2, e1 _ rfl]
    rfl
  simp only [aF, aI, execOp, opd, dE, aD, put, nth, cel, alloc, Nat.reduceAdd, b31]
  refine jI (xs := aO (key hash pn 0) .aV) dY f1 fun H2 r2 o2 f2 => ?_
  have old2 : Old h H2 n := fun j hj => by rw [o2 j (by omega), old1 j hj]
  simp only [aF, hkr, execOp, opd, bG, aD, put, nth, aL, aE, Nat.reduceAdd, gL]
  refine eF f2 (f88 x 1 (n + 1) H2 (n + 1 + 1)) fun v3 h3 n3 r3 w3 hn3 f3 ⟨e3, eh3, en3⟩ => ?_
  subst e3; subst en3
  simp only [bY, aC, fgr, aD, put, aB, Nat.reduceAdd]
  refine ⟨(by (try simp (disch := first | assumption | omega) only [dF, List.all_cons, List.all_nil, gB, gF]); repeat' (first | rfl | exact (Bool.or_eq_true _ _).mpr (.inr rfl) | refine (Bool.and_eq_true _ _).mpr ⟨?_, ?_⟩)), ?_⟩
  have g0 : Row h3 n [Y] := by rw [eh3]; exact ((r1.aX (o2 n (by omega))).upd (by omega)).upd (by omega)
  have g1 : h3 (n + 1) = some (.row (.l (aO (key hash pn 0) .aV)) 31) := by rw [eh3, aP _ _ (by omega), aP _ _ (by omega)]; exact r2
  have g2 : Row h3 (n + 1 + 1) [.ptr x 1] := by rw [eh3]; exact (Row.new _ _ _ _).upd (by omega)
  have g3 : Row h3 (n + 1 + 1 + 1) [.ptr (n + 1) 0] := by rw [eh3]; exact Row.new _ _ _ _
  have old3 : Old h h3 n := fun j hj => by rw [eh3, aP _ _ (by omega), aP _ _ (by omega), old2 j hj]
  clear eh3
  refine kW (g := 109) (first := []) (cap := [.ptr (n + 1 + 1) 0, .ptr (n + 1 + 1 + 1) 0]) rfl rfl ?_
  let TM : List a9 := (Y :: .ptr c1 0 :: .ptr c2 0 :: .ptr n 0 :: undef :: a9.aA :: .bool false :: a9.aA :: a9.aA :: a9.aA :: a9.aA :: a9.aA :: a9.aA :: .fn (.func 109) [] [.ptr (n + 1 + 1) 0, .ptr (n + 1 + 1 + 1) 0] :: undef :: a9.aA :: a9.aA :: a9.aA :: a9.aA :: a9.aA :: a9.aA :: a9.aA :: a9.aA :: a9.aA :: a9.aA :: a9.aA :: undef :: [])
  obtain ⟨H4, hH4⟩ : ∃ H4, H4 = upd h3 (n + 1 + 1 + 1 + 1) (some (Blk.loop (AN TM))) := ⟨_, rfl⟩
  have f4 : bO H4 (n + 1 + 1 + 1 + 1 + 1) := by rw [hH4]; exact f3.new
  have o4 : ∀ j, j ≠ n + 1 + 1 + 1 + 1 → H4 j = h3 j := fun j hj => by rw [hH4, aP _ _ hj]
  have r4 : H4 (n + 1 + 1 + 1 + 1) = some (Blk.loop (AN TM)) := by rw [hH4, aW]
  have old4 : Old h H4 n := fun j hj => by rw [o4 j (by omega), old3 j hj]
  show Wp (c9 env (evalW env) 109 [a9.fn (Fn.yield (n + 1 + 1 + 1 + 1)) [] [], a9.ptr (n + 1 + 1) 0, a9.ptr (n + 1 + 1 + 1) 0]) (upd h3 (n + 1 + 1 + 1 + 1) (some (Blk.loop (AN TM)))) (n + 1 + 1 + 1 + 1 + 1) _
  rw [KI, ← hH4]
  clear hH4
  have hl0 := iv.l.aX (h' := H4) (fun j q => old4 j (mn j q))
  have hp0 := iv.lp.mono (D' := D) (fun j q => q) (fun j q => old4 j (iv.dn j q))
  have kt : AtN H4 (n + 1 + 1 + 1 + 1 + 1) (n + 1) .aV (key hash pn 0) := ⟨⟨⟨_, (o4 (n + 1) (by omega)).trans g1⟩, .aV, K8 hl⟩, by omega, fun j q => by cases q⟩
  have hro : Roomy vl := by
    have q := iv.l
    generalize L.length = len at q
    cases q with
    | nil => trivial
    | zero => exact Nat.le_refl _
    | sl => trivial
  refine wp_mono (f109 false (.fn (.yield (n + 1 + 1 + 1 + 1)) [] []) (n + 1 + 1) (n + 1 + 1 + 1) x 1 _ vl (n + 1) .aV (key hash pn 0) L.length xl L D
    (fun k h1 n1 => ∃ nS, n + 1 + 1 + 1 + 1 < nS ∧ P nS k h1 n1 ∧ h1 (n + 1 + 1 + 1 + 1) = some (.loop (AN TM)) ∧ Row h1 n [Y] ∧ Row h1 c2 (aY hash pn))
    (fun h1 n1 => ∃ l nS, h1 (n + 1 + 1 + 1 + 1) = some (.loop l) ∧ l.state = .done ∧ l.pending = some .ret ∧ n + 1 + 1 + 1 + 1 < nS ∧ ((∃ k, pos false L (key hash pn 0) ≤ k ∧ P nS k h1 n1 ∧ ∀ hk : k < L.length, same hash pn L[k] = false) ∨ R nS h1 n1))
    H4 (n + 1 + 1 + 1 + 1 + 1) (g2.aX (o4 _ (by omega))) (g3.aX (o4 _ (by omega))) (iv.row.aX (old4 x iv.xn)) rfl rfl hc hl0.rds hro (fun j q => by have := mn j q; omega) hp0 (fun j q => by have := iv.dn j q; omega) kt (rL.mono _) f4 (by omega) (by have := iv.xn; omega) ?_ ?_ ?_) ?_
  · rintro k h1 n1 ⟨nS, _, hp, _⟩
    exact hP nS k h1 n1 hp
  · intro p h' n' hpos hn' hf' ho'
    have oo : Old h h' n := fun j hj => by rw [ho' j (by omega), old4 j hj]
    refine ⟨n', by omega, by rw [hpos.eq]; exact hS h' n' (by omega) hf' oo, (ho' _ (by omega)).trans r4, (g0.aX (o4 n (by omega))).aX (ho' n (by omega)), hc2.aX (oo c2 hn2)⟩
  · rintro p k hk id sv h1 n1 hpos hpk ⟨nS, hnS, hp, hlo, hrY, hrc⟩ hx a d1 d2
    obtain ⟨_, hps, hf1'⟩ := hP nS k h1 n1 hp
    refine mK hlo rfl rfl ?_
    simp only [EV, List.getD_cons_zero, lJ, List.zip_cons_cons, List.zip_nil_left, AN, TM, cQ, Try.f106, Option.getD_some, aC, fgr, execOp, opd, aD, put, nth, aB, gL, gB]
    refine ⟨_, hlo, rfl, ?_⟩
    have hidn : id < n := iv.dn id d1
    have hpk' : pos false L (key hash pn 0) ≤ k := by rw [← hpos.eq]; exact hpk
    obtain ⟨h2, hh2⟩ : ∃ h2, h2 = upd h1 (n + 1 + 1 + 1 + 1) (some (Blk.loop { AN TM with state := .busy })) := ⟨_, rfl⟩
    have ho2 : ∀ j, j ≠ n + 1 + 1 + 1 + 1 → h2 j = h1 j := fun j hj => by rw [hh2, aP _ _ hj]
    have hlo2 : h2 (n + 1 + 1 + 1 + 1) = some (.loop { AN TM with state := .busy }) := by rw [hh2, aW]
    have hp2 : P nS k h2 n1 := by rw [hh2]; exact hst nS k h1 n1 _ _ (by omega) hnS hp
    have a2 : At h2 id sv L[k] := a.aX (ho2 id (by omega)) (fun j q => ho2 j (by have := iv.dn j (d2 j q); omega))
    have hrY2 := hrY.aX (ho2 n (by omega))
    have hrc2 := hrc.aX (ho2 c2 (by omega))
    show Run env 106 _ _ _ _ _ (upd h1 (n + 1 + 1 + 1 + 1) (some (Blk.loop { AN TM with state := .busy }))) n1
    rw [← hh2]
    clear hh2
    obtain ⟨_, _, hf2⟩ := hP nS k h2 n1 hp2
    simp only [EU, List.getD_cons_zero, cQ, Try.f106, Option.getD_some, aC, fgr, List.nil_append, List.append_nil]
    refine cG ⟨rfl, ?_⟩
    simp only [aF, aI, aC, tyr, execOp, opd, aD, put, nth, und, sizeOf, nilCheck, aZ, aS, fieldAddr, Nat.reduceAdd, gL, gI]
    rw [bP (gX a2.row a2.ok)]
    simp only [aF, execOp, opd, aD, put, nth, Nat.reduceAdd]
    have hld2 : Rd (load env 28 (.ptr c2 0)) h2 n1 [c2] (.agg (aY hash pn)) := Row.whole hrc2 iK rfl (cA hl)
    rw [bP hld2]
    have hne := Y6 L[k].hash hash L[k].pn pn a2.ok.h hl
    cases hsm : same hash pn L[k] with
    | false =>
      have e1 : (decide (L[k].hash = hash) && (L[k].pn == pn)) = false := hsm
      rw [e1] at hne
      simp only [bY, aF, cS, cM, cR, mD, eX, aI, aC, fgr, execOp, opd, ofValue, aD, put, nth, aB, bC, branch, Nat.reduceAdd, hne, gL, gB]
      exact ⟨(by (try simp (disch := first | assumption | omega) only [dF, List.all_cons, List.all_nil, gB, gF]); repeat' (first | rfl | exact (Bool.or_eq_true _ _).mpr (.inr rfl) | refine (Bool.and_eq_true _ _).mpr ⟨?_, ?_⟩)), _, hlo2, .inr ⟨.inl rfl, _, nS, aW _ _ _, rfl, rfl, hnS, .inl ⟨k, hpk', hst nS _ _ _ _ _ (by omega) hnS hp2, fun _ => hsm⟩⟩⟩
    | true =>
      have e1 : (decide (L[k].hash = hash) && (L[k].pn == pn)) = true := hsm
      rw [e1] at hne
      simp only [aF, cS, cM, cR, gD, aI, execOp, opd, aD, put, nth, Nat.reduceAdd, hne, gL, gB]
      rw [bP (hrY2.one (off := 0) rfl IC rfl)]
      simp only [cS, cM, cR, gD, aI, execOp, opd, bG, aD, put, nth, aL, Nat.reduceAdd, gL]
      refine eF hf2 (hY nS k hk id sv h2 n1 (by omega) hpk' hp2 a2 d1 d2 hsm) fun v6 h6 n6 r6 w6 hn6 f6 ⟨hres, hkeep, hkc⟩ => ?_
      have hlo6 : h6 (n + 1 + 1 + 1 + 1) = some (.loop { AN TM with state := .busy }) := (hkeep _ (by omega) hnS).trans hlo2
      rcases hres with ⟨e6 | e6, hp6⟩ | ⟨e6 | e6, hr6⟩
      · subst e6
        simp only [bY, aF, cS, cM, cR, gD, eX, aI, aC, fgr, execOp, opd, ofValue, aD, put, nth, aB, unOp, bC, branch, Nat.reduceAdd, gL, gB]
        exact ⟨(by (try simp (disch := first | assumption | omega) only [dF, List.all_cons, List.all_nil, gB, gF]); repeat' (first | rfl | exact (Bool.or_eq_true _ _).mpr (.inr rfl) | refine (Bool.and_eq_true _ _).mpr ⟨?_, ?_⟩)), _, hlo6, .inl ⟨.inl rfl, nS, hnS, hst nS _ _ _ _ _ (by omega) hnS hp6, aW _ _ _, (hrY2.aX (hkeep n (Nat.le_refl _) (by omega))).upd (by omega), (hrc2.aX hkc).upd (by omega)⟩⟩
      · subst e6
        simp only [bY, aF, cS, cM, cR, gD, eX, aI, aC, fgr, execOp, opd, ofValue, aD, put, nth, aB, unOp, bC, branch, Nat.reduceAdd, gL, gB]
        exact ⟨(by (try simp (disch := first | assumption | omega) only [dF, List.all_cons, List.all_nil, gB, gF]); repeat' (first | rfl | exact (Bool.or_eq_true _ _).mpr (.inr rfl) | refine (Bool.and_eq_true _ _).mpr ⟨?_, ?_⟩)), _, hlo6, .inl ⟨.inl rfl, nS, hnS, hst nS _ _ _ _ _ (by omega) hnS hp6, aW _ _ _, (hrY2.aX (hkeep n (Nat.le_refl _) (by omega))).upd (by omega), (hrc2.aX hkc).upd (by omega)⟩⟩
      · subst e6
        simp only [bY, aF, cS, cM, cR, gD, eX, aI, aC, fgr, execOp, opd, ofValue, aD, put, nth, aB, unOp, bC, branch, Nat.reduceAdd, gL, gB]
        exact ⟨(by (try simp (disch := first | assumption | omega) only [dF, List.all_cons, List.all_nil, gB, gF]); repeat' (first | rfl | exact (Bool.or_eq_true _ _).mpr (.inr rfl) | refine (Bool.and_eq_true _ _).mpr ⟨?_, ?_⟩)), _, hlo6, .inr ⟨.inl rfl, _, nS, aW _ _ _, rfl, rfl, hnS, .inr (hsr nS _ _ _ _ (by omega) hnS hr6)⟩⟩
      · subst e6
        simp only [bY, aF, cS, cM, cR, gD, eX, aI, aC, fgr, execOp, opd, ofValue, aD, put, nth, aB, unOp, bC, branch, Nat.reduceAdd, gL, gB]
        exact ⟨(by (try simp (disch := first | assumption | omega) only [dF, List.all_cons, List.all_nil, gB, gF]); repeat' (first | rfl | exact (Bool.or_eq_true _ _).mpr (.inr rfl) | refine (Bool.and_eq_true _ _).mpr ⟨?_, ?_⟩)), _, hlo6, .inr ⟨.inl rfl, _, nS, aW _ _ _, rfl, rfl, hnS, .inr (hsr nS _ _ _ _ (by omega) hnS hr6)⟩⟩
  · rintro v5 h5 n5 ⟨e5, hh⟩
    rcases hh with ⟨nS, hnS, hp, hlo, hrY, hrc⟩ | ⟨l, nS, hlo, hst1, hpe, hnS, hh⟩
    · refine ⟨_, hlo, (fun q => by cases q), .normal, rfl, ?_⟩
      simp only [aC, true_and]
      refine ⟨nS, by omega, .inl ⟨L.length, Nat.le_trans (List.countP_le_length) (Nat.le_refl _), hst nS _ _ _ _ _ (by omega) (by omega) hp, fun hk => absurd hk (Nat.lt_irrefl _)⟩⟩
    · refine ⟨_, hlo, (fun q => by rw [hst1] at q; cases q), .ret, by rw [hpe], ?_⟩
      simp only [aC, true_and]
      refine ⟨nS, by omega, ?_⟩
      rcases hh with ⟨k, hk1, hk2, hk3⟩ | hr
      · exact .inl ⟨k, hk1, hst nS _ _ _ _ _ (by omega) (by omega) hk2, hk3⟩
      · exact .inr (hsr nS _ _ _ _ (by omega) (by omega) hr)
noncomputable def L37 (tm : List a9) : kI := { state := .ready, pending := none, fn := 37, tmps := tm, params := [13], assign := J2, body := IX }
def fnd (L : List Ver) (p k : Nat) (z : Int) : Option Ver := (((L.take k).drop p).filter fun v => there v z).getLast?
theorem YX (L : List Ver) (p : Nat) (z : Int) : fnd L p p z = none := by
  unfold fnd
  rw [List.drop_eq_nil_of_le (by rw [List.length_take]; omega)]; rfl
theorem PV {L : List Ver} {p k : Nat} (hp : p ≤ k) (hk : k < L.length) (z : Int) : fnd L p (k + 1) z = if there L[k] z then some L[k] else fnd L p k z := by
  unfold fnd
  rw [List.take_add_one, List.getElem?_eq_getElem hk, List.drop_append_of_le_length (by rw [List.length_take]; omega), List.filter_append]
  by_cases c : there L[k] z = true
  · rw [if_pos c]; simp [c]
  · rw [if_neg c]; simp [c]
theorem OR {L : List Ver} {p k : Nat} {z : Int} {w : Ver} (h : fnd L p k z = some w) : w ∈ L := by
  have := List.mem_of_getLast? h
  exact List.mem_of_mem_take (List.mem_of_mem_drop (List.mem_filter.1 this).1)
theorem b31z : build env 31 [] = M.pure (.agg fG.i.zero.cells) := rfl
def WO (H : Hp) (D : Nat → Prop) (c : a9) (o : Option Ver) : Prop := (c = .eZ ∧ o = none) ∨ ∃ id sv w, c = .ptr id 0 ∧ o = some w ∧ At H id sv w ∧ D id ∧ ∀ j, bB sv = some j → D j
structure P37 (H6 : Hp) (n : Nat) (D : Nat → Prop) (L : List Ver) (hash : List UInt8) (pn z : Int) (lo : kI) (nS k : Nat) (h1 : Hp) (n1 : Nat) : Prop where
  fr : bO h1 n1
  ns : nS ≤ n1
  kp : ∀ j, j < n + 1 + 1 + 1 + 1 + 1 + 1 + 1 → j ≠ n + 1 + 1 + 1 → j ≠ n + 1 + 1 + 1 + 1 + 1 + 1 → h1 j = H6 j
  lp : h1 (n + 1 + 1 + 1 + 1 + 1 + 1) = some (.loop lo)
  cl : ∃ c, h1 (n + 1 + 1 + 1) = some (.row (.l [c]) 128) ∧ WO H6 D c (fnd L (pos false L (key hash pn 0)) k z)
  sm : ∀ i (hi : i < L.length), pos false L (key hash pn 0) ≤ i → i < k → same hash pn L[i] = true
end Go.Am.Ytlgebaofkolkoaa
set_option linter.unusedSimpArgs false
set_option linter.unusedVariables false
set_option linter.defProp false
set_option maxRecDepth 10000
namespace Go.Am.Ytlgebaofkolkoaa
open Go Go.Am Go.Proofs
set_option maxHeartbeats 4000000 in
theorem f37 (x : Nat) (hash : List UInt8) (pn z : Int) (hl : hash.length = 32) (L : List Ver) (D M : Nat → Prop) (h : Hp) (n : Nat) (hs : Ix h n D M x L) (hc : L.length ≤ 1000000) (hf : bO h n) :
    Wp (bD env (evalW env) 37 [.ptr x 0, .agg (aY hash pn), .int .i64 z]) h n fun v' h' n' => Old h h' n ∧ ∃ k, pos false L (key hash pn 0) ≤ k ∧ (∀ i (hi : i < L.length), pos false L (key hash pn 0) ≤ i → i < k → same hash pn L[i] = true) ∧ (∀ hk : k < L.length, same hash pn L[k] = false) ∧
      ((fnd L (pos false L (key hash pn 0)) k z = none ∧ v' = .tup [.agg fG.i.zero.cells, .bool false]) ∨ ∃ w s', fnd L (pos false L (key hash pn 0)) k z = some w ∧ v' = .tup [.agg (aO w s'), .bool true] ∧ w ∈ L ∧ Bytes h' s' w.aR ∧ ∀ j, bB s' = some j → n ≤ j ∧ j < n') := by
  obtain ⟨⟨S, s0, rS, perm⟩, rL, ok⟩ := hs
  obtain ⟨vl, vs, xl, xs, iv, mx, ml, ms, mn⟩ := s0
  refine bL ff37 fi37 ?_
  simp only [V8, Try.f37, Option.getD_some, List.replicate, aC, execOp, opd, nth, ended, aT, aU, Nat.reduceAdd, Nat.reduceSub, gL, gI]
  refine dA (v := .agg (aY hash pn)) iK rfl hf fun H1 r1 o1 f1 => ?_
  simp only [aC, execOp, opd, aD, put, nth]
  refine dA (v := .int .i64 z) ti3 rfl f1 fun H2 r2 o2 f2 => ?_
  simp only [aC, execOp, aD, put]
  rw [cD dY rfl]
  obtain ⟨H3, hH3⟩ : ∃ H3, H3 = upd H2 (n + 1 + 1) (some (Blk.row (bQ.l fG.i.zero.cells) 31)) := ⟨_, rfl⟩
  show Ops env 37 none _ _ _ _ _ (upd H2 (n + 1 + 1) (some (Blk.row (bQ.l fG.i.zero.cells) 31))) _
  rw [← hH3]
  have f3 : bO H3 (n + 1 + 1 + 1) := by rw [hH3]; exact f2.new
  have o3 : ∀ j, j ≠ n + 1 + 1 → H3 j = H2 j := fun j hj => by rw [hH3, aP _ _ hj]
  have r3 : H3 (n + 1 + 1) = some (Blk.row (bQ.l fG.i.zero.cells) 31) := by rw [hH3, aW]
  clear hH3
  simp only [aC, tyr, fgr, execOp, opd, ofValue, aD, put, nth, aB, zeroOf, cel, alloc, cN, newRow]
  have r1' : Row (upd H3 (n + 1 + 1 + 1) (some (Blk.row (bQ.l [a9.eZ]) 128))) n (aY hash pn) := ((r1.aX (o2 n (by omega))).aX (o3 n (by omega))).upd (by omega)
  rw [aM (show Rd (load env 28 (.ptr n 0)) _ _ [n] (.agg (aY hash pn)) from Row.whole r1' iK rfl (cA hl))]
  simp only [aC, hkr, execOp, opd, bG, aD, put, nth, aL, aE, gL]
  refine eL (f81 x hash pn _ _) ?_
  simp only [aC, fgr, aD, put, aB]
  refine kW (g := 106) (first := []) (cap := [.ptr (n + 1 + 1 + 1 + 1) 0, .ptr (n + 1 + 1 + 1 + 1 + 1) 0]) rfl rfl ?_
  let TM : List a9 := (.ptr x 0 :: .agg (aY hash pn) :: .int .i64 z :: a9.aA :: .ptr n 0 :: .ptr (n + 1) 0 :: .ptr (n + 1 + 1) 0 :: .bool false :: .ptr (n + 1 + 1 + 1) 0 :: undef :: a9.aA :: a9.aA :: .fn (.func 106) [] [.ptr (n + 1 + 1 + 1 + 1) 0, .ptr (n + 1 + 1 + 1 + 1 + 1) 0] :: undef :: a9.aA :: a9.aA :: a9.aA :: a9.aA :: a9.aA :: undef :: a9.aA :: a9.aA :: undef :: a9.aA :: a9.aA :: a9.aA :: a9.aA :: a9.aA :: [])
  obtain ⟨H6, hH6⟩ : ∃ H6, H6 = upd (upd (upd (upd H3 (n + 1 + 1 + 1) (some (Blk.row (bQ.l [a9.eZ]) 128))) (n + 1 + 1 + 1 + 1) (some (Blk.row (bQ.l [a9.ptr x 0]) 56))) (n + 1 + 1 + 1 + 1 + 1) (some (Blk.row (bQ.l (aY hash pn)) 28))) (n + 1 + 1 + 1 + 1 + 1 + 1) (some (Blk.loop (L37 TM))) := ⟨_, rfl⟩
  show Wp (c9 env (evalW env) 106 [a9.fn (Fn.yield (n + 1 + 1 + 1 + 1 + 1 + 1)) [] [], a9.ptr (n + 1 + 1 + 1 + 1) 0, a9.ptr (n + 1 + 1 + 1 + 1 + 1) 0]) (upd (upd (upd (upd H3 (n + 1 + 1 + 1) (some (Blk.row (bQ.l [a9.eZ]) 128))) (n + 1 + 1 + 1 + 1) (some (Blk.row (bQ.l [a9.ptr x 0]) 56))) (n + 1 + 1 + 1 + 1 + 1) (some (Blk.row (bQ.l (aY hash pn)) 28))) (n + 1 + 1 + 1 + 1 + 1 + 1) (some (Blk.loop (L37 TM)))) _ _
  rw [KL, ← hH6]
  have f6 : bO H6 (n + 1 + 1 + 1 + 1 + 1 + 1 + 1) := by rw [hH6]; exact f3.new.new.new.new
  have old6 : Old h H6 n := fun j hj => by rw [hH6, aP _ _ (by omega), aP _ _ (by omega), aP _ _ (by omega), aP _ _ (by omega), o3 j (by omega), o2 j (by omega), o1 j (by omega)]
  have g1 : Row H6 (n + 1) [.int .i64 z] := by rw [hH6]; exact ((((r2.aX (o3 (n + 1) (by omega))).upd (by omega)).upd (by omega)).upd (by omega)).upd (by omega)
  have g2 : H6 (n + 1 + 1) = some (Blk.row (bQ.l fG.i.zero.cells) 31) := by rw [hH6, aP _ _ (by omega), aP _ _ (by omega), aP _ _ (by omega), aP _ _ (by omega)]; exact r3
  have g3 : H6 (n + 1 + 1 + 1) = some (Blk.row (bQ.l [a9.eZ]) 128) := by rw [hH6, aP _ _ (by omega), aP _ _ (by omega), aP _ _ (by omega), aW]
  have g4 : Row H6 (n + 1 + 1 + 1 + 1) [.ptr x 0] := by rw [hH6]; exact ((Row.new _ _ _ _).upd (by omega)).upd (by omega)
  have g5 : Row H6 (n + 1 + 1 + 1 + 1 + 1) (aY hash pn) := by rw [hH6]; exact (Row.new _ _ _ _).upd (by omega)
  have g6 : H6 (n + 1 + 1 + 1 + 1 + 1 + 1) = some (.loop (L37 TM)) := by rw [hH6, aW]
  clear hH6
  have iv6 : IxV H6 (n + 1 + 1 + 1 + 1 + 1 + 1 + 1) D x vl vs xl xs L S := by
    exact ⟨iv.row.aX (old6 x iv.xn), iv.l.aX (fun j q => old6 j (mn j (ml j q)).1), iv.lp.mono (fun j q => q) (fun j q => old6 j (iv.dn j q)), iv.s.aX (fun j q => old6 j (mn j (ms j q)).1), iv.sp.mono (fun j q => q) (fun j q => old6 j (iv.dn j q)), by have := iv.xn; omega, fun j q => by have := iv.dn j q; omega, iv.xd, iv.vlx, iv.vsx⟩
  have lt : ∀ (j : Nat), j < n → ∀ (h1 : Hp), (∀ j, j < n + 1 + 1 + 1 + 1 + 1 + 1 + 1 → j ≠ n + 1 + 1 + 1 → j ≠ n + 1 + 1 + 1 + 1 + 1 + 1 → h1 j = H6 j) → h1 j = H6 j := fun j hj h1 hk => hk j (by omega) (by omega) (by omega)
  refine wp_mono ((f106 (.fn (.yield (n + 1 + 1 + 1 + 1 + 1 + 1)) [] []) (n + 1 + 1 + 1 + 1) (n + 1 + 1 + 1 + 1 + 1) x hash pn hl L S D (P37 H6 n D L hash pn z (L37 TM)) (fun _ _ _ => False) vl vs xl xs H6 (n + 1 + 1 + 1 + 1 + 1 + 1 + 1) iv6 (fun j q => by have := (mn j (ml j q)).1; omega) rL hc ⟨rfl, rfl, rfl⟩ g4 g5 (by omega) (by omega) f6 ?_ ?_ ?_ (fun _ _ _ _ _ _ _ q => q) ?_).free f6) ?_
  · intro nS k h1 n1 p
    exact ⟨iv6.l.rds.aX (fun j q => lt j (mn j (ml j q)).1 h1 p.kp), iv6.lp.mono (fun j q => q) (fun j q => lt j (iv.dn j q) h1 p.kp), p.fr⟩
  · intro h' nS hn' hf' ho'
    exact ⟨hf', Nat.le_refl _, fun j hj _ _ => ho' j hj, (ho' _ (by omega)).trans g6, ⟨.eZ, (ho' _ (by omega)).trans g3, .inl ⟨rfl, YX _ _ _⟩⟩, fun i hi h1 h2 => by omega⟩
  · intro nS k h1 n1 i b hi hns p
    obtain ⟨c, hc1, hc2⟩ := p.cl
    exact ⟨p.fr.upd (by have := p.ns; omega), p.ns, fun j hj h1' h2' => by rw [aP _ _ (by omega)]; exact p.kp j hj h1' h2', by rw [aP _ _ (by omega)]; exact p.lp, ⟨c, by rw [aP _ _ (by omega)]; exact hc1, hc2⟩, p.sm⟩
  · intro nS k hk id sv h1 n1 hnS hpk p a d1 d2 hsm
    have hidn := iv.dn id d1
    refine mK p.lp rfl rfl ?_
    simp only [J2, List.getD_cons_zero, lJ, List.zip_cons_cons, List.zip_nil_left, L37, TM, cQ, Try.f37, Option.getD_some, aC, fgr, execOp, opd, aD, put, nth, aB, gL, gB]
    refine ⟨_, p.lp, rfl, ?_⟩
    obtain ⟨h2, hh2⟩ : ∃ h2, h2 = upd h1 (n + 1 + 1 + 1 + 1 + 1 + 1) (some (Blk.loop { L37 TM with state := .busy })) := ⟨_, rfl⟩
    have ho2 : ∀ j, j ≠ n + 1 + 1 + 1 + 1 + 1 + 1 → h2 j = h1 j := fun j hj => by rw [hh2, aP _ _ hj]
    have hlo2 : h2 (n + 1 + 1 + 1 + 1 + 1 + 1) = some (.loop { L37 TM with state := .busy }) := by rw [hh2, aW]
    have hns := p.ns
    have hf2 : bO h2 n1 := by rw [hh2]; exact p.fr.upd (by omega)
    show Run env 37 _ _ _ _ _ (upd h1 (n + 1 + 1 + 1 + 1 + 1 + 1) (some (Blk.loop { L37 TM with state := .busy }))) n1
    rw [← hh2]
    clear hh2
    have a2 : At h2 id sv L[k] := a.aX (ho2 id (by omega)) (fun j q => ho2 j (by have := iv.dn j (d2 j q); omega))
    have a6 : At H6 id sv L[k] := a.aX (lt id hidn h1 p.kp).symm (fun j q => (lt j (iv.dn j (d2 j q)) h1 p.kp).symm)
    have rz : Row h2 (n + 1) [.int .i64 z] := g1.aX ((ho2 (n + 1) (by omega)).trans (p.kp (n + 1) (by omega) (by omega) (by omega)))
    obtain ⟨c, hc1, hc2⟩ := p.cl
    simp only [IX, List.getD_cons_zero, cQ, Try.f37, Option.getD_some, aC, fgr, List.nil_append, List.append_nil]
    refine cG ⟨rfl, ?_⟩
    simp only [aF, aI, execOp, opd, aD, put, nth, nilCheck, Nat.reduceAdd, gI]
    rw [bP (eN a2.row a2.ok)]
    simp only [aF, execOp, opd, aD, put, nth, Nat.reduceAdd]
    rw [bP (rz.one (off := 0) rfl ti3 rfl)]
    simp only [aF, hkr, execOp, opd, bG, aD, put, nth, aL, aE, Nat.reduceAdd, gL]
    refine eF hf2 (f82 L[k] sv a2.ok z h2 n1 hf2) fun v6 h6 n6 r6 w6 hn6 f6' ⟨e6, o6⟩ => ?_
    subst e6
    have hlo6 : h6 (n + 1 + 1 + 1 + 1 + 1 + 1) = some (.loop { L37 TM with state := .busy }) := (o6 _ (by omega)).trans hlo2
    have hc6 : h6 (n + 1 + 1 + 1) = some (.row (.l [c]) 128) := ((o6 _ (by omega)).trans (ho2 _ (by omega))).trans hc1
    have sm' : ∀ i (hi : i < L.length), pos false L (key hash pn 0) ≤ i → i < k + 1 → same hash pn L[i] = true := fun i hi h1' h2' => by
      by_cases q : i = k
      · subst q; exact hsm
      · exact p.sm i hi h1' (by omega)
    have keep6 : ∀ j, j < n1 → j ≠ n + 1 + 1 + 1 + 1 + 1 + 1 → h6 j = h1 j := fun j hj hne => (o6 j hj).trans (ho2 j hne)
    cases hth : there L[k] z with
    | false =>
      simp only [bY, aF, aI, aC, fgr, execOp, opd, aD, put, nth, aB, unOp, Nat.reduceAdd, gB]
      refine ⟨(by (try simp (disch := first | assumption | omega) only [dF, List.all_cons, List.all_nil, gB, gF]); repeat' (first | rfl | exact (Bool.or_eq_true _ _).mpr (.inr rfl) | refine (Bool.and_eq_true _ _).mpr ⟨?_, ?_⟩)), _, hlo6, .inl ⟨.inl rfl, ⟨f6'.upd (by omega), by omega, fun j hj h1' h2' => ?_, aW _ _ _, ⟨c, by rw [aP _ _ (by omega)]; exact hc6, by rw [PV hpk hk, hth]; exact hc2⟩, sm'⟩⟩, fun j hj hjn => ?_, ?_⟩
      · rw [aP _ _ h2', keep6 j (by omega) h2']; exact p.kp j hj h1' h2'
      · rw [aP _ _ (by omega), keep6 j (by omega) (by omega)]
      · rw [aP _ _ (by omega), keep6 _ (by omega) (by omega)]
    | true =>
      simp only [bY, aF, aI, aC, fgr, execOp, opd, aD, put, nth, aB, unOp, Nat.reduceAdd, gB]
      refine ⟨(by (try simp (disch := first | assumption | omega) only [dF, List.all_cons, List.all_nil, gB, gF]); repeat' (first | rfl | exact (Bool.or_eq_true _ _).mpr (.inr rfl) | refine (Bool.and_eq_true _ _).mpr ⟨?_, ?_⟩)), ?_⟩
      rw [dR (Row.write (v := .ptr id 0) hc6 iV rfl (by show 0 + 1 ≤ 1; omega) rfl)]
      simp only [aC, fgr, aD, aB, cel]
      have spl : cB [c] 0 [a9.ptr id 0] = [a9.ptr id 0] := rfl
      refine ⟨_, (aP _ _ (by omega)).trans hlo6, .inl ⟨.inl rfl, ⟨(f6'.upd (by omega)).upd (by omega), by omega, fun j hj h1' h2' => ?_, aW _ _ _, ⟨.ptr id 0, by rw [aP _ _ (by omega), aW]; rfl, .inr ⟨id, sv, L[k], rfl, by rw [PV hpk hk, hth]; rfl, a6, d1, d2⟩⟩, sm'⟩⟩, fun j hj hjn => ?_, ?_⟩
      · rw [aP _ _ h2', aP _ _ h1', keep6 j (by omega) h2']; exact p.kp j hj h1' h2'
      · rw [aP _ _ (by omega), aP _ _ (by omega), keep6 j (by omega) (by omega)]
      · rw [aP _ _ (by omega), aP _ _ (by omega), keep6 _ (by omega) (by omega)]
  · rintro v5 h5 n5 ⟨⟨e5, nS, hnS, hh⟩, hn5, f5⟩
    rcases hh with ⟨k, hk1, p, hk3⟩ | hr
    · refine ⟨_, p.lp, (fun q => by cases q), .normal, rfl, ?_⟩
      obtain ⟨c, hc1, hc2⟩ := p.cl
      have hns := p.ns
      obtain ⟨h7, hh7⟩ : ∃ h7, h7 = upd h5 (n + 1 + 1 + 1 + 1 + 1 + 1) (some (Blk.loop { L37 TM with state := .exhausted })) := ⟨_, rfl⟩
      have ho7 : ∀ j, j ≠ n + 1 + 1 + 1 + 1 + 1 + 1 → h7 j = h5 j := fun j hj => by rw [hh7, aP _ _ hj]
      have f7 : bO h7 n5 := by rw [hh7]; exact f5.upd (by omega)
      show dV env 37 none _ _ _ _ (upd h5 (n + 1 + 1 + 1 + 1 + 1 + 1) (some (Blk.loop { L37 TM with state := .exhausted }))) n5
      rw [← hh7]
      clear hh7
      have kp7 : ∀ j, j < n → h7 j = h j := fun j hj => by rw [ho7 j (by omega), lt j hj h5 p.kp, old6 j hj]
      have hcell : Row h7 (n + 1 + 1 + 1) [c] := ⟨_, (ho7 _ (by omega)).trans hc1⟩
      have res : h7 (n + 1 + 1) = some (Blk.row (bQ.l fG.i.zero.cells) 31) := (ho7 _ (by omega)).trans ((p.kp _ (by omega) (by omega) (by omega)).trans g2)
      simp only [aC, execOp, opd, nth]
      rw [aM (hcell.one (off := 0) rfl iV rfl)]
      rcases hc2 with ⟨rfl, hn⟩ | ⟨id, sw, w, rfl, hw, a, d1, d2⟩
      · simp only [aC, tyr, fgr, execOp, opd, ofValue, dE, aD, put, nth, aB, und, bor, bE, dG, dU, bJ, equal, cZ, cH, cJ, b31z, gB]
        rw [dR (Row.write (v := .agg fG.i.zero.cells) res dY rfl (by decide) rfl)]
        have spl : cB fG.i.zero.cells 0 (a9.agg fG.i.zero.cells).cells = fG.i.zero.cells := dZ rfl
        rw [spl]
        simp only [aC, fgr, execOp, opd, ofValue, aD, put, nth, aB, gB]
        refine eQ (Row.whole (cs := fG.i.zero.cells) (Row.new _ _ _ _) dY rfl rfl) ?_
        exact wp_pure.2 ⟨fun j hj => by rw [aP _ _ (by omega), kp7 j hj], k, hk1, p.sm, hk3, .inl ⟨hn, rfl⟩⟩
      · simp only [aC, tyr, fgr, execOp, opd, ofValue, aD, put, nth, aB, und, bor, bE, dG, dU, bJ, equal, cZ, cH, cJ, gB]
        rw [aM (hcell.one (off := 0) rfl iV rfl)]
        have hwL := OR hw
        have okw := ok w hwL
        have hidn := iv.dn id d1
        have a7 : At h7 id sw w := a.aX ((ho7 id (by omega)).trans (lt id hidn h5 p.kp)) (fun j q => (ho7 j (by have := iv.dn j (d2 j q); omega)).trans (lt j (iv.dn j (d2 j q)) h5 p.kp))
        simp only [aC, execOp, opd, aD, put, nth, nilCheck]
        rw [aM (eN a7.row a7.ok)]
        simp only [aC, hkr, execOp, opd, bG, aD, put, nth, aL, aE, gL]
        refine bF f7 (f77 w sw a7.ok h7 n5 a7.s (fun j q => by have := iv.dn j (d2 j q); omega) okw.2 f7) fun v8 h8 n8 hn8 f8 ⟨s', e8, b8, i8, o8⟩ => ?_
        subst e8
        simp only [aC, execOp, opd, aD, put, nth]
        have res8 : h8 (n + 1 + 1) = some (Blk.row (bQ.l fG.i.zero.cells) 31) := (o8 _ (by omega)).trans res
        rw [dR (Row.write (v := .agg (aO w s')) res8 dY (bM a7.ok.h a7.ok.b) (by decide) (cL b8.kind.2.1))]
        have spl : cB fG.i.zero.cells 0 (a9.agg (aO w s')).cells = aO w s' := dZ (bM a7.ok.h a7.ok.b)
        rw [spl]
        simp only [aC, fgr, execOp, opd, ofValue, aD, put, nth, aB, gB]
        refine eQ (eN (Row.new _ _ _ _) a7.ok) ?_
        refine wp_pure.2 ⟨fun j hj => by rw [aP _ _ (by omega), o8 j (by omega), kp7 j hj], k, hk1, p.sm, hk3, .inr ⟨w, s', hw, rfl, hwL, b8.aX fun j q => aP _ _ (by have := i8 j q; omega), fun j q => by have := i8 j q; omega⟩⟩
    · exact hr.elim
theorem f89 (v w : a9) (a b : List UInt8) (h : Hp) (n : Nat) (ha : Bytes h v a) (hb : Bytes h w b) : Wp (bD env (evalW env) 89 [v, w]) h n fun v' h' n' => v' = .bool (a == b) ∧ h' = h ∧ n' = n := by
  refine bL ff89 fi89 ?_
  simp only [UA, Try.f89, Option.getD_some, List.replicate, aC, fgr, execOp, opd, ofValue, aD, put, nth, aB, ended, aT, aU, Nat.reduceAdd, Nat.reduceSub, ha.str t29 t9 t5, gL, gI]
  rw [hb.str t29 t9 t5]
  simp only [aC, fgr, execOp, opd, aD, put, nth, aB, bor, strOp, dG, gB, gI]
theorem AJ {id off : Nat} {z : Int} {j : Nat} (hz : z = (j : Nat)) (hj : j < 32) {h' : Hp} {n' : Nat} : Rd (indexAddr env 25 (.ptr id off) (.int .i64 z)) h' n' [] (.ptr id (off + j)) := by
  subst hz
  simp only [indexAddr, u25, bind_pure, cW, z5, Go.Am.idx, bind_assoc, Int.toNat_natCast, Nat.mul_one, aS]
  exact Rd.bind (i2 := []) (Rd.ob (decide_eq_true ⟨by omega, by omega⟩)) (Rd.pure _)
theorem B7 {hash : List UInt8} {pn : Int} {j : Nat} (hj : j < hash.length) : (aY hash pn)[j]? = some (u8 hash[j]) := by
  unfold aY
  rw [List.getElem?_append_left (by simpa using hj), List.getElem?_map, List.getElem?_eq_getElem hj]; rfl
theorem TO (Q : eJ) (ks : List Kf) (p q : Nat) (h1 h2 : List UInt8) (n1 n2 : Int) (l1 : h1.length = 32) (l2 : h2.length = 32) (h : Hp) (n : Nat) (r1 : Row h p (aY h1 n1)) (r2 : Row h q (aY h2 n2))
    (hT : ∀ (x0 x1 x5 x7 x18 x27 x32 x37 : a9), Lib.compareBytes h1 h2 = 0 → dV env 87 none Q ks (.exit 0) (x0 :: x1 :: .ptr p 0 :: .ptr q 0 :: .int .i64 0 :: x5 :: a9.aA :: x7 :: a9.aA :: a9.aA :: a9.aA :: a9.aA :: a9.aA :: a9.aA :: a9.aA :: a9.aA :: a9.aA :: a9.aA :: x18 :: a9.aA :: a9.aA :: a9.aA :: a9.aA :: a9.aA :: a9.aA :: a9.aA :: a9.aA :: x27 :: a9.aA :: a9.aA :: a9.aA :: a9.aA :: x32 :: a9.aA :: a9.aA :: a9.aA :: a9.aA :: x37 :: []) h n)
    (hR : ∀ (r : Int) (x0 x1 x5 x7 x18 x27 x32 x37 : a9), r ≠ 0 → Lib.compareBytes h1 h2 = r → dV env 87 none Q ks .ret (x0 :: x1 :: .ptr p 0 :: .ptr q 0 :: .int .i64 r :: x5 :: a9.aA :: x7 :: a9.aA :: a9.aA :: a9.aA :: a9.aA :: a9.aA :: a9.aA :: a9.aA :: a9.aA :: a9.aA :: a9.aA :: x18 :: a9.aA :: a9.aA :: a9.aA :: a9.aA :: a9.aA :: a9.aA :: a9.aA :: a9.aA :: x27 :: a9.aA :: a9.aA :: a9.aA :: a9.aA :: x32 :: a9.aA :: a9.aA :: a9.aA :: a9.aA :: x37 :: []) h n) :
    ∀ (m i : Nat) (x0 x1 x7 x18 x27 x32 x37 : a9), i + m = 32 → Lib.compareBytes (h1.drop i) (h2.drop i) = Lib.compareBytes h1 h2 → Run env 87 none Q (.loop DB) ks (x0 :: x1 :: .ptr p 0 :: .ptr q 0 :: .int .i64 0 :: .int .i64 (i : Nat) :: a9.aA :: x7 :: a9.aA :: a9.aA :: a9.aA :: a9.aA :: a9.aA :: a9.aA :: a9.aA :: a9.aA :: a9.aA :: a9.aA :: x18 :: a9.aA :: a9.aA :: a9.aA :: a9.aA :: a9.aA :: a9.aA :: a9.aA :: a9.aA :: x27 :: a9.aA :: a9.aA :: a9.aA :: a9.aA :: x32 :: a9.aA :: a9.aA :: a9.aA :: a9.aA :: x37 :: []) h n := by
  intro m
  induction m with
  | zero =>
    intro i x0 x1 x7 x18 x27 x32 x37 hi he
    rw [cF]
    have hcc : ¬ (((i : Nat) : Int) < 32) := by omega
    have d1 : h1.drop i = [] := by rw [List.drop_eq_nil_iff]; omega
    have d2 : h2.drop i = [] := by rw [List.drop_eq_nil_iff]; omega
    rw [d1, d2] at he
    simp only [DB, bS, Try.f87, Option.getD_some, aC, fgr, execOp, opd, ofValue, aD, put, nth, aB, bor, aJ, aK, intOp, Int.reduceNeg, List.getD_cons_zero, hcc, gL, gB]
    exact hT _ _ _ _ _ _ _ _ he.symm
  | succ m ih =>
    intro i x0 x1 x7 x18 x27 x32 x37 hi he
    rw [cF]
    have hcc : (((i : Nat) : Int) < 32) := by omega
    simp only [DB, bS, Try.f87, Option.getD_some, aC, fgr, execOp, opd, ofValue, aD, put, nth, aB, bor, aJ, aK, intOp, Int.reduceNeg, List.getD_cons_zero, hcc, gL, gB]
    have i1 : i < h1.length := by omega
    have i2 : i < h2.length := by omega
    have e1 : h1.drop i = h1[i] :: h1.drop (i + 1) := (List.getElem_cons_drop i1).symm
    have e2 : h2.drop i = h2[i] :: h2.drop (i + 1) := (List.getElem_cons_drop i2).symm
    rw [e1, e2] at he
    simp only [Lib.compareBytes] at he
    have g1 := r1.one (E := env) (n := n) (off := 0 + i) (by rw [Nat.zero_add]; exact B7 i1) ti5 rfl
    have g2 := r2.one (E := env) (n := n) (off := 0 + i) (by rw [Nat.zero_add]; exact B7 i2) ti5 rfl
    have x1' := AJ (id := p) (off := 0) (z := ((i : Nat) : Int)) (j := i) rfl (by omega) (h' := h) (n' := n)
    have x2' := AJ (id := q) (off := 0) (z := ((i : Nat) : Int)) (j := i) rfl (by omega) (h' := h) (n' := n)
    have w1 : IntKind.i64.wrap (((i : Nat) : Int) + 1) = ((i + 1 : Nat) : Int) := by rw [w64 (by omega) (by omega)]; omega
    rw [Nat.zero_add] at g1 g2 x1' x2'
    by_cases c1 : h1[i] < h2[i]
    · have c1' : ((h1[i].toNat : Nat) : Int) < ((h2[i].toNat : Nat) : Int) := by rw [UInt8.lt_iff_toNat_lt] at c1; omega
      rw [if_pos c1] at he
      refine cG ⟨rfl, ?_⟩
      simp only [aF, aI, aC, tyr, execOp, opd, aD, put, nth, und, sizeOf, aZ, aS, fieldAddr, Nat.reduceAdd, Int.reduceNeg, gL, gI]
      rw [bP x1']
      simp only [aF, execOp, opd, aD, put, nth, Nat.reduceAdd, Int.reduceNeg]
      rw [bP g1]
      simp only [aF, aI, aC, u8, tyr, execOp, opd, aD, put, nth, und, sizeOf, aZ, aS, fieldAddr, Nat.reduceAdd, Int.reduceNeg, gL, gI]
      rw [bP x2']
      simp only [aF, execOp, opd, aD, put, nth, Nat.reduceAdd, Int.reduceNeg]
      rw [bP g2]
      simp only [bY, aF, aI, aC, u8, fgr, execOp, opd, ofValue, aD, put, nth, aB, bor, aJ, aK, intOp, Nat.reduceAdd, Int.reduceNeg, u8, c1', gB]
      refine ⟨(by (try simp (disch := omega) only [dF, List.all_cons, List.all_nil, gB, gF]); repeat' (first | rfl | exact (Bool.or_eq_true _ _).mpr (.inr rfl) | refine (Bool.and_eq_true _ _).mpr ⟨?_, ?_⟩)), ?_⟩
      exact hR (-1) _ _ _ _ _ _ _ _ (by decide) he.symm
    have c1' : ¬ ((h1[i].toNat : Nat) : Int) < ((h2[i].toNat : Nat) : Int) := by rw [UInt8.lt_iff_toNat_lt] at c1; omega
    rw [if_neg c1] at he
    refine cG ⟨rfl, ?_⟩
    simp only [aF, aI, aC, tyr, execOp, opd, aD, put, nth, und, sizeOf, aZ, aS, fieldAddr, Nat.reduceAdd, Int.reduceNeg, gL, gI]
    rw [bP x1']
    simp only [aF, execOp, opd, aD, put, nth, Nat.reduceAdd, Int.reduceNeg]
    rw [bP g1]
    simp only [aF, aI, aC, u8, tyr, execOp, opd, aD, put, nth, und, sizeOf, aZ, aS, fieldAddr, Nat.reduceAdd, Int.reduceNeg, gL, gI]
    rw [bP x2']
    simp only [aF, execOp, opd, aD, put, nth, Nat.reduceAdd, Int.reduceNeg]
    rw [bP g2]
    simp only [bY, aF, aI, aC, u8, fgr, execOp, opd, aD, put, nth, aB, bor, aJ, aK, intOp, Nat.reduceAdd, Int.reduceNeg, u8, c1', gB]
    refine ⟨(by (try simp (disch := omega) only [dF, List.all_cons, List.all_nil, gB, gF]); repeat' (first | rfl | exact (Bool.or_eq_true _ _).mpr (.inr rfl) | refine (Bool.and_eq_true _ _).mpr ⟨?_, ?_⟩)), ?_⟩
    refine cG ⟨rfl, ?_⟩
    simp only [aF, aI, aC, tyr, execOp, opd, aD, put, nth, und, sizeOf, aZ, aS, fieldAddr, Nat.reduceAdd, Int.reduceNeg, gL, gI]
    rw [bP x1']
    simp only [aF, execOp, opd, aD, put, nth, Nat.reduceAdd, Int.reduceNeg]
    rw [bP g1]
    simp only [aF, aI, aC, u8, tyr, execOp, opd, aD, put, nth, und, sizeOf, aZ, aS, fieldAddr, Nat.reduceAdd, Int.reduceNeg, gL, gI]
    rw [bP x2']
    simp only [aF, execOp, opd, aD, put, nth, Nat.reduceAdd, Int.reduceNeg]
    rw [bP g2]
    by_cases c2 : h2[i] < h1[i]
    · have c2' : ((h2[i].toNat : Nat) : Int) < ((h1[i].toNat : Nat) : Int) := by rw [UInt8.lt_iff_toNat_lt] at c2; omega
      rw [if_pos c2] at he
      simp only [bY, aF, aI, aC, u8, fgr, execOp, opd, ofValue, aD, put, nth, aB, bor, aJ, aK, intOp, Nat.reduceAdd, Int.reduceNeg, gt_iff_lt, u8, c2', gB]
      refine ⟨(by (try simp (disch := omega) only [dF, List.all_cons, List.all_nil, gB, gF]); repeat' (first | rfl | exact (Bool.or_eq_true _ _).mpr (.inr rfl) | refine (Bool.and_eq_true _ _).mpr ⟨?_, ?_⟩)), ?_⟩
      exact hR 1 _ _ _ _ _ _ _ _ (by decide) he.symm
    · have c2' : ¬ ((h2[i].toNat : Nat) : Int) < ((h1[i].toNat : Nat) : Int) := by rw [UInt8.lt_iff_toNat_lt] at c2; omega
      rw [if_neg c2] at he
      simp only [bY, aF, aI, aC, u8, fgr, execOp, opd, ofValue, aD, put, nth, aB, bor, aJ, aK, intOp, bU, Nat.reduceAdd, Int.reduceNeg, gt_iff_lt, u8, c2', gB]
      refine ⟨(by (try simp (disch := omega) only [dF, List.all_cons, List.all_nil, gB, gF]); repeat' (first | rfl | exact (Bool.or_eq_true _ _).mpr (.inr rfl) | refine (Bool.and_eq_true _ _).mpr ⟨?_, ?_⟩)), ?_⟩
      simp only [Int.reduceNeg, w1]
      exact ih (i + 1) _ _ _ _ _ _ _ (by omega) he
theorem f87 (h1 h2 : List UInt8) (n1 n2 : Int) (l1 : h1.length = 32) (l2 : h2.length = 32) (h : Hp) (n : Nat) (hf : bO h n) :
    Wp (bD env (evalW env) 87 [.agg (aY h1 n1), .agg (aY h2 n2)]) h n fun v' h' n' => v' = .int .i64 (nT h1 n1 h2 n2) ∧ Old h h' n := by
  refine bL ff87 fi87 ?_
  simp only [UC, Try.f87, Option.getD_some, List.replicate, aC, execOp, opd, nth, ended, aT, aU, Nat.reduceAdd, Nat.reduceSub, Int.reduceNeg, gL, gI]
  refine dA (v := .agg (aY h1 n1)) iK rfl hf fun H1 r1 o1 f1 => ?_
  simp only [aC, execOp, opd, aD, put, nth, Int.reduceNeg]
  refine dA (v := .agg (aY h2 n2)) iK rfl f1 fun H2 r2 o2 f2 => ?_
  simp only [aC, fgr, execOp, opd, ofValue, aD, put, aB, Int.reduceNeg]
  have r1' : Row H2 n (aY h1 n1) := r1.aX (o2 n (by omega))
  have r2' : Row H2 (n + 1) (aY h2 n2) := r2
  have old2 : Old h H2 n := fun j hj => by rw [o2 j (by omega), o1 j (by omega)]
  refine TO _ _ n (n + 1) h1 h2 n1 n2 l1 l2 H2 _ r1' r2' ?_ ?_ 32 0 _ _ _ _ _ _ _ (by omega) (by rw [List.drop_zero, List.drop_zero])
  · intro x0 x1 x5 x7 x18 x27 x32 x37 he
    simp only [aC, tyr, execOp, opd, aD, put, nth, und, sizeOf, aZ, aS, fieldAddr, Int.reduceNeg, gL, gI]
    rw [aM (r1'.one (iC l1) oD rfl)]
    simp only [aC, tyr, execOp, opd, aD, put, nth, und, sizeOf, aZ, aS, fieldAddr, Int.reduceNeg, gL, gI]
    rw [aM (r2'.one (iC l2) oD rfl)]
    by_cases c1 : n1 < n2
    · simp only [aC, fgr, execOp, opd, ofValue, aD, put, nth, aB, bor, aJ, aK, intOp, Int.reduceNeg, c1, gB]
      exact ⟨by simp [nT, orI, he, kM, c1], old2⟩
    simp only [aC, tyr, fgr, execOp, opd, aD, put, nth, aB, und, sizeOf, bor, aJ, aK, intOp, aZ, aS, fieldAddr, Int.reduceNeg, c1, gL, gB, gI]
    rw [aM (r1'.one (iC l1) oD rfl)]
    simp only [aC, tyr, execOp, opd, aD, put, nth, und, sizeOf, aZ, aS, fieldAddr, gL, gI]
    rw [aM (r2'.one (iC l2) oD rfl)]
    by_cases c2 : n2 < n1
    · simp only [aC, fgr, execOp, opd, ofValue, aD, put, nth, aB, bor, aJ, aK, intOp, gt_iff_lt, c2, gB]
      exact ⟨by simp [nT, orI, he, kM, c1, c2], old2⟩
    · simp only [aC, fgr, execOp, opd, ofValue, aD, put, nth, aB, bor, aJ, aK, intOp, gt_iff_lt, c2, gB]
      exact ⟨by simp [nT, orI, he, kM, c1, c2], old2⟩
  · intro r x0 x1 x5 x7 x18 x27 x32 x37 h0 he
    simp only [aC, nth, Int.reduceNeg, true_and]
    exact ⟨by simp [nT, orI, he, h0], old2⟩
theorem Q3 (a b : List UInt8) (l1 : a.length = 32) (l2 : b.length = 32) : binOp env .eql 25 (.agg (a.map u8)) (.agg (b.map u8)) = M.pure (.bool (decide (a = b))) := by
  have e := LB 98 a b l1 l2
  show bE env .eql 25 (.agg (a.map u8)) (.agg (b.map u8)) = _
  unfold bE
  simp only
  unfold bJ
  rw [e, bind_pure]
def xR (v w : Ver) : Bool := decide (nT v.hash v.pn w.hash w.pn = 0) && (decide (v.made = w.made) && (decide (v.value = w.value) && ((v.base == w.base) && (decide (v.bZ = w.bZ) && (decide (v.by_ = w.by_) && (v.aR == w.aR))))))
set_option maxHeartbeats 4000000 in
theorem f42 (v w : Ver) (sv sw : a9) (ov : v.Ok) (ow : w.Ok) (h : Hp) (n : Nat) (hb : Bytes h sv v.aR) (hb2 : Bytes h sw w.aR) (hn1 : ∀ j, bB sv = some j → j < n) (hn2 : ∀ j, bB sw = some j → j < n) (hf : bO h n) :
    Wp (bD env (evalW env) 42 [.agg (aO v sv), .agg (aO w sw)]) h n fun v' h' n' => v' = .bool (xR v w) ∧ Old h h' n := by
  refine bL ff42 fi42 ?_
  simp only [V4, Try.f42, Option.getD_some, List.replicate, aC, execOp, opd, nth, ended, aT, aU, Nat.reduceAdd, Nat.reduceSub, gL, gI]
  refine dA (v := .agg (aO v sv)) dY rfl hf fun H1 r1 o1 f1 => ?_
  simp only [aC, execOp, opd, aD, put, nth]
  refine dA (v := .agg (aO w sw)) dY rfl f1 fun H2 r2 o2 f2 => ?_
  have r1' : Row H2 n (aO v sv) := r1.aX (o2 n (by omega))
  have r2' : Row H2 (n + 1) (aO w sw) := r2
  have old2 : Old h H2 n := fun j hj => by rw [o2 j (by omega), o1 j (by omega)]
  simp only [aC, tyr, fgr, execOp, opd, ofValue, aD, put, nth, aB, und, sizeOf, aZ, aS, fieldAddr, gL, gI]
  rw [aM (gX r1' ov)]
  simp only [aC, tyr, execOp, opd, aD, put, nth, und, sizeOf, aZ, aS, fieldAddr, gL, gI]
  rw [aM (gX r2' ow)]
  simp only [aC, hkr, execOp, opd, bG, aD, put, nth, aL, aE, gL]
  refine bF f2 (f87 v.hash w.hash v.pn w.pn ov.h ow.h H2 _ f2) fun v3 h3 n3 hn3 f3 ⟨e3, o3⟩ => ?_
  subst e3
  have r1' := r1'.aX (o3 n (by omega))
  have r2' := r2'.aX (o3 (n + 1) (by omega))
  have old3 : Old h h3 n := fun j hj => by rw [o3 j (by omega), old2 j hj]
  have b1 := hb.aX (h' := h3) (fun j q => old3 j (hn1 j q))
  have b2 := hb2.aX (h' := h3) (fun j q => old3 j (hn2 j q))
  by_cases c0 : nT v.hash v.pn w.hash w.pn = 0
  rotate_left
  · simp only [aC, fgr, execOp, opd, ofValue, aD, put, nth, aB, bor, aJ, aK, intOp, bC, branch, c0, gL, gB, gI]
    exact ⟨by simp [xR, c0], old3⟩
  simp only [aC, tyr, fgr, execOp, opd, ofValue, aD, put, nth, aB, und, sizeOf, bor, aJ, aK, intOp, aZ, aS, fieldAddr, beq_self_eq_true, c0, gL, gB, gI]
  rw [aM (eS r1' ov)]
  simp only [aC, tyr, execOp, opd, aD, put, nth, und, sizeOf, aZ, aS, fieldAddr, gL, gI]
  rw [aM (eS r2' ow)]
  by_cases c1 : v.made = w.made
  rotate_left
  · simp only [aC, fgr, execOp, opd, ofValue, aD, put, nth, aB, bor, aJ, aK, intOp, bC, branch, c1, gL, gB, gI]
    exact ⟨by simp [xR, c0, c1], old3⟩
  simp only [aC, tyr, execOp, opd, ofValue, aD, put, nth, und, sizeOf, bor, aJ, aK, intOp, bC, branch, aZ, aS, fieldAddr, beq_self_eq_true, c1, gL, gB, gI]
  rw [aM (kX r1' ov)]
  simp only [aC, tyr, execOp, opd, aD, put, nth, und, sizeOf, aZ, aS, fieldAddr, gL, gI]
  rw [aM (kX r2' ow)]
  by_cases c2 : v.value = w.value
  rotate_left
  · simp only [aC, fgr, execOp, opd, ofValue, aD, put, nth, aB, bor, aJ, aK, intOp, bC, branch, c2, gL, gB, gI]
    exact ⟨by simp [xR, c0, c1, c2], old3⟩
  simp only [aC, tyr, execOp, opd, ofValue, aD, put, nth, und, sizeOf, bor, aJ, aK, intOp, bC, branch, aZ, aS, fieldAddr, beq_self_eq_true, c2, gL, gB, gI]
  rw [aM (B0 r1' ov)]
  simp only [aC, tyr, execOp, opd, aD, put, nth, und, sizeOf, aZ, aS, fieldAddr, gL, gI]
  rw [aM (B0 r2' ow)]
  by_cases c3 : v.base = w.base
  rotate_left
  · have cb : (v.base == w.base) = false := beq_eq_false_iff_ne.2 c3
    simp only [aC, tyr, fgr, execOp, opd, ofValue, aD, put, nth, aB, und, bor, bE, dG, dU, bC, branch, bJ, equal, cZ, cH, cJ, cb, gL, gB]
    exact ⟨by simp [xR, c0, c1, c2, c3], old3⟩
  have cb : (v.base == w.base) = true := beq_iff_eq.2 c3
  simp only [aC, tyr, execOp, opd, ofValue, aD, put, nth, und, sizeOf, bor, bE, dG, dU, bC, branch, aZ, aS, fieldAddr, bJ, equal, cZ, cH, cJ, cb, gL, gI]
  rw [aM (dD r1' ov)]
  simp only [aC, tyr, execOp, opd, aD, put, nth, und, sizeOf, aZ, aS, fieldAddr, gL, gI]
  rw [aM (dD r2' ow)]
  by_cases c4 : v.bZ = w.bZ
  rotate_left
  · simp only [aC, fgr, execOp, opd, ofValue, aD, put, nth, aB, bor, aJ, aK, intOp, bC, branch, c4, gL, gB, gI]
    exact ⟨by simp [xR, c0, c1, c2, c3, c4], old3⟩
  simp only [aC, tyr, execOp, opd, ofValue, aD, put, nth, und, sizeOf, bor, aJ, aK, intOp, bC, branch, aZ, aS, fieldAddr, beq_self_eq_true, c4, gL, gB, gI]
  rw [aM (D3 r1' ov)]
  simp only [aC, tyr, execOp, opd, aD, put, nth, und, sizeOf, aZ, aS, fieldAddr, gL, gI]
  rw [aM (D3 r2' ow)]
  have hq := Q3 v.by_ w.by_ ov.b ow.b
  by_cases c5 : v.by_ = w.by_
  rotate_left
  · rw [decide_eq_false c5] at hq
    simp only [aC, fgr, execOp, opd, ofValue, aD, put, nth, aB, bC, branch, hq, gL, gB]
    exact ⟨by simp [xR, c0, c1, c2, c3, c4, c5], old3⟩
  rw [decide_eq_true c5] at hq
  simp only [aC, tyr, execOp, opd, ofValue, aD, put, nth, und, sizeOf, bC, branch, aZ, aS, fieldAddr, hq, gL, gI]
  rw [aM (iO r1' ov)]
  simp only [aC, execOp, opd, aD, put, nth, gL]
  rw [b1.str t29 t9 t5]
  simp only [aC, tyr, execOp, opd, aD, put, nth, und, sizeOf, aZ, aS, fieldAddr, gL, gI]
  rw [aM (iO r2' ow)]
  simp only [aC, execOp, opd, aD, put, nth, gL]
  rw [b2.str t29 t9 t5]
  simp only [aC, fgr, execOp, opd, ofValue, aD, put, nth, aB, bor, strOp, dG, bC, branch, gL, gB, gI]
  exact ⟨by simp [xR, c0, c1, c2, c3, c4, c5]; rw [Bool.eq_iff_iff]; simp, old3⟩
theorem RK (o : Bool) (L : List Ver) (v : Ver) : pos o L v ≤ L.length := List.countP_le_length
theorem nF {o : Bool} {L : List Ver} (r : dM o L) (v : Ver) : Pos o L v (pos o L v) := by
  induction L with
  | nil => exact ⟨Nat.le_refl _, fun k hk => absurd hk (Nat.not_lt_zero _), fun k hk => absurd hk (Nat.not_lt_zero _)⟩
  | cons a L ih =>
    have r' : dM o L := (List.pairwise_cons.1 r).2
    have ra := (List.pairwise_cons.1 r).1
    have i := ih r'
    by_cases c : iE o a v < 0
    · have e : pos o (a :: L) v = pos o L v + 1 := by unfold pos; rw [List.countP_cons, if_pos (decide_eq_true c)]
      rw [e]
      refine ⟨by have := i.le; simp; omega, fun k hk h => ?_, fun k hk h => ?_⟩
      · cases k with
        | zero => exact c
        | succ k => exact i.lo k (by simpa using hk) (by omega)
      · cases k with
        | zero => omega
        | succ k => exact i.hi k (by simpa using hk) (by omega)
    · have all : ∀ b ∈ L, ¬ iE o b v < 0 := fun b hb h => c ((zR o).lt _ _ _ (ra b hb) h)
      have e : pos o (a :: L) v = 0 := by
        unfold pos
        rw [List.countP_eq_zero]
        intro b hb
        rcases List.mem_cons.1 hb with rfl | hb
        · simpa using c
        · simpa using all b hb
      rw [e]
      refine ⟨Nat.zero_le _, fun k hk h => absurd h (Nat.not_lt_zero _), fun k hk h => ?_⟩
      cases k with
      | zero => exact c
      | succ k => exact all _ (List.getElem_mem _)
theorem JA {L : List Ver} {w v : Ver} (r : dM false L) (hw : w ∈ L) (he : fM w v = 0) : pos false (kP L w) v = pos false L w := by
  obtain ⟨hp, hpw⟩ := pos_at r (nF r w) hw
  have pm := (jU hp).countP_eq (fun u => decide (iE false u w < 0))
  have e : ∀ u : Ver, iE false u v = iE false u w := fun u => (oL.eqr (d := u) he).symm
  show (iL L (pos false L w)).countP (fun u => decide (iE false u v < 0)) = _
  simp only [e]
  rw [List.countP_cons, if_neg (by
    rw [hpw]
    have := oL.refl w
    simp only [decide_eq_true_eq]
    show ¬ fM w w < 0
    omega)] at pm
  exact pm.symm
theorem J5 {L : List Ver} {w v : Ver} (r : dM false L) (hw : w ∈ L) (he : fM w v = 0) : mP (kP L w) v = L.set (pos false L w) v := by
  obtain ⟨hp, hpw⟩ := pos_at r (nF r w) hw
  have ht : (L.take (pos false L w)).length = pos false L w := by rw [List.length_take]; omega
  unfold mP
  rw [JA r hw he]
  unfold kP fW iL
  rw [List.take_left' ht, List.drop_left' ht, List.set_eq_take_append_cons_drop, if_pos hp]
noncomputable def L43 (tm : List a9) : kI := { state := .ready, pending := none, fn := 43, tmps := tm, params := [19], assign := J1, body := IW }
def iQ (aR : List UInt8) : Ver := ⟨List.replicate 32 0, 0, 0, 0, aR, false, 0, List.replicate 32 0⟩
theorem OJ (aR : List UInt8) : (iQ aR).Ok := ⟨rfl, rfl⟩
def z35 : List a9 := List.replicate 32 (.int .u8 0) ++ [.int .u32 0, .int .i64 0, .int .i64 0]
def z34 : List a9 := [.bool false, .int .i64 0] ++ List.replicate 32 (.int .u8 0)
theorem z31b : fG.i.zero.cells = z35 ++ [.aV] ++ z34 := rfl
theorem LU {sv : a9} {aR : List UInt8} (hs : sv.cells = [sv] ∧ bN sv = true ∧ eD sv = false) : build env 31 [(3, sv)] = M.pure (.agg (aO (iQ aR) sv)) := by
  have e1 : ∀ pl : Nat → Option (Nat × Nat), pl 3 = some (35, 1) → fill pl fG.i.zero.cells [(3, sv)] = some (aO (iQ aR) sv) := fun pl p0 => by
    rw [z31b, hO p0 rfl rfl (by rw [hs.1]; rfl) hs.2.2, hs.1]
    simp only [fill]
    congr 1
  have e2 : build env 31 [(3, sv)] = (aZ "build" (fill ([(0, 33), (33, 1), (34, 1), (35, 1), (36, 1), (37, 1), (38, 32)][·]?) fG.i.zero.cells [(3, sv)])).bind fun cs => M.pure (.agg cs) := rfl
  rw [e2, e1 _ rfl]
  rfl
def told (S : List Ver) (p k : Nat) (z : Int) : List Ver := ((S.take k).drop p).filter fun v => there v z
theorem I8 (S : List Ver) (p : Nat) (z : Int) : told S p p z = [] := by
  unfold told
  rw [List.drop_eq_nil_of_le (by rw [List.length_take]; omega)]; rfl
theorem zI {L : List Ver} {p k : Nat} (hp : p ≤ k) (hk : k < L.length) (z : Int) : told L p (k + 1) z = if there L[k] z then told L p k z ++ [L[k]] else told L p k z := by
  unfold told
  rw [List.take_add_one, List.getElem?_eq_getElem hk, List.drop_append_of_le_length (by rw [List.length_take]; omega), List.filter_append]
  by_cases c : there L[k] z = true
  · rw [if_pos c]; simp [c]
  · rw [if_neg c]; simp [c]
theorem N4 (L : List Ver) (p k : Nat) (z : Int) : (told L p k z).length ≤ L.length := by
  unfold told
  have h1 := List.length_filter_le (fun v => there v z) ((L.take k).drop p)
  have h2 : ((L.take k).drop p).length ≤ L.length := by rw [List.length_drop, List.length_take]; omega
  omega
structure P43 (H7 : Hp) (n : Nat) (S : List Ver) (aR : List UInt8) (z : Int) (nS k : Nat) (h1 : Hp) (n1 : Nat) : Prop where
  fr : bO h1 n1
  n7 : n + 1 + 1 + 1 + 1 + 1 + 1 + 1 ≤ nS
  ns : nS ≤ n1
  kp : ∀ j, j < n + 1 + 1 + 1 + 1 + 1 + 1 + 1 → j ≠ n + 1 + 1 → j ≠ n + 1 + 1 + 1 + 1 + 1 + 1 → h1 j = H7 j
  cl : ∃ acc cells, h1 (n + 1 + 1) = some (.row (.l [acc]) 43) ∧ Lst h1 31 70 acc (told S (pos true S (iQ aR)) k z).length cells ∧ Vs h1 (fun j => nS ≤ j ∧ j < n1 ∧ bB acc ≠ some j) cells (told S (pos true S (iQ aR)) k z) ∧ ∀ j, bB acc = some j → nS ≤ j
  sm : ∀ i (hi : i < S.length), pos true S (iQ aR) ≤ i → i < k → S[i].aR = aR
theorem f43 (x : Nat) (sv : a9) (aR : List UInt8) (z : Int) (L : List Ver) (D M : Nat → Prop) (h : Hp) (n : Nat) (hs : Ix h n D M x L) (hb : Bytes h sv aR) (hsn : ∀ j, bB sv = some j → j < n) (hc : L.length ≤ 1000000) (hf : bO h n) :
    Wp (bD env (evalW env) 43 [.ptr x 0, sv, .int .i64 z]) h n fun v' h' n' => Old h h' n ∧ ∃ S k, dM true S ∧ L.Perm S ∧ pos true S (iQ aR) ≤ k ∧ (∀ i (hi : i < S.length), pos true S (iQ aR) ≤ i → i < k → S[i].aR = aR) ∧ (∀ hk : k < S.length, S[k].aR ≠ aR) ∧ VL h' n n' v' (told S (pos true S (iQ aR)) k z) := by
  obtain ⟨⟨S, s0, rS, perm⟩, rL, ok⟩ := hs
  obtain ⟨vl, vs, xl, xs, iv, mx, ml, ms, mn⟩ := s0
  refine bL ff43 fi43 ?_
  simp only [V3, Try.f43, Option.getD_some, List.replicate, aC, execOp, opd, nth, ended, aT, aU, Nat.reduceAdd, Nat.reduceSub, gL, gI]
  refine dA (v := sv) uC hb.kind.2.2 hf fun H1 r1 o1 f1 => ?_
  rw [hb.kind.1] at r1
  simp only [aC, execOp, opd, aD, put, nth]
  refine dA (v := .int .i64 z) ti3 rfl f1 fun H2 r2 o2 f2 => ?_
  simp only [aC, tyr, fgr, hkr, execOp, opd, bG, ofValue, aD, put, nth, aB, aL, aE, zeroOf, cel, alloc, cN, newRow, gL]
  obtain ⟨H3, hH3⟩ : ∃ H3, H3 = upd H2 (n + 1 + 1) (some (Blk.row (bQ.l [a9.aV]) 43)) := ⟨_, rfl⟩
  rw [← hH3]
  have f3 : bO H3 (n + 1 + 1 + 1) := by rw [hH3]; exact f2.new
  have o3 : ∀ j, j ≠ n + 1 + 1 → H3 j = H2 j := fun j hj => by rw [hH3, aP _ _ hj]
  have r3 : H3 (n + 1 + 1) = some (Blk.row (bQ.l [a9.aV]) 43) := by rw [hH3, aW]
  clear hH3
  have old3 : Old h H3 n := fun j hj => by rw [o3 j (by omega), o2 j (by omega), o1 j (by omega)]
  have r1' : Row H3 n [sv] := (r1.aX (o2 n (by omega))).aX (o3 n (by omega))
  have r2' : Row H3 (n + 1) [.int .i64 z] := r2.aX (o3 (n + 1) (by omega))
  refine eL (f73 x _ true H3 _ (iv.row.aX (old3 x iv.xn)) rfl) ?_
  simp only [aC, fgr, opd, aD, put, nth, aB, Bool.not_true]
  refine cG ⟨rfl, ?_⟩
  simp only [aF, aI, aC, tyr, execOp, opd, aD, put, nth, und, sizeOf, nilCheck, aZ, aS, fieldAddr, Nat.reduceAdd, gL, gI]
  rw [bP (r1'.one (off := 0) rfl uC rfl)]
  simp only [aF, aI, execOp, opd, dE, aD, put, nth, cel, alloc, Nat.reduceAdd, LU (aR := aR) hb.kind]
  refine jI (xs := aO (iQ aR) sv) dY f3 fun H4 r4 o4 f4 => ?_
  simp only [aF, hkr, execOp, opd, bG, aD, put, nth, aL, aE, Nat.reduceAdd, gL]
  refine eF f4 (f88 x 3 (n + 1 + 1 + 1) H4 _) fun v3 h3 n3 r3w w3 hn3 f5 ⟨e3, eh3, en3⟩ => ?_
  subst e3; subst en3
  simp only [bY, aC, fgr, aD, put, aB, Nat.reduceAdd]
  refine ⟨(by (try simp (disch := first | assumption | omega) only [dF, List.all_cons, List.all_nil, gB, gF]); repeat' (first | rfl | exact (Bool.or_eq_true _ _).mpr (.inr rfl) | refine (Bool.and_eq_true _ _).mpr ⟨?_, ?_⟩)), ?_⟩
  have row4 : Row h3 (n + 1 + 1 + 1 + 1) [.ptr x 3] := by rw [eh3]; exact (Row.new _ _ _ _).upd (by omega)
  have row5 : Row h3 (n + 1 + 1 + 1 + 1 + 1) [.ptr (n + 1 + 1 + 1) 0] := by rw [eh3]; exact Row.new _ _ _ _
  have o5 : ∀ j, j < n + 1 + 1 + 1 + 1 → h3 j = H4 j := fun j hj => by rw [eh3, aP _ _ (by omega), aP _ _ (by omega)]
  clear eh3
  refine kW (g := 109) (first := []) (cap := [.ptr (n + 1 + 1 + 1 + 1) 0, .ptr (n + 1 + 1 + 1 + 1 + 1) 0]) rfl rfl ?_
  let TM : List a9 := (.ptr x 0 :: sv :: .int .i64 z :: a9.aA :: .ptr n 0 :: .ptr (n + 1) 0 :: .aV :: .ptr (n + 1 + 1) 0 :: undef :: a9.aA :: .bool false :: a9.aA :: a9.aA :: a9.aA :: a9.aA :: a9.aA :: a9.aA :: a9.aA :: .fn (.func 109) [] [.ptr (n + 1 + 1 + 1 + 1) 0, .ptr (n + 1 + 1 + 1 + 1 + 1) 0] :: undef :: a9.aA :: a9.aA :: a9.aA :: a9.aA :: a9.aA :: a9.aA :: undef :: a9.aA :: a9.aA :: a9.aA :: a9.aA :: undef :: a9.aA :: a9.aA :: a9.aA :: a9.aA :: a9.aA :: a9.aA :: a9.aA :: a9.aA :: [])
  obtain ⟨H7, hH7⟩ : ∃ H7, H7 = upd h3 (n + 1 + 1 + 1 + 1 + 1 + 1) (some (Blk.loop (L43 TM))) := ⟨_, rfl⟩
  show Wp (c9 env (evalW env) 109 [a9.fn (Fn.yield (n + 1 + 1 + 1 + 1 + 1 + 1)) [] [], a9.ptr (n + 1 + 1 + 1 + 1) 0, a9.ptr (n + 1 + 1 + 1 + 1 + 1) 0]) (upd h3 (n + 1 + 1 + 1 + 1 + 1 + 1) (some (Blk.loop (L43 TM)))) _ _
  rw [KI, ← hH7]
  have f7 : bO H7 (n + 1 + 1 + 1 + 1 + 1 + 1 + 1) := by rw [hH7]; exact f5.new
  have o7 : ∀ j, j ≠ n + 1 + 1 + 1 + 1 + 1 + 1 → H7 j = h3 j := fun j hj => by rw [hH7, aP _ _ hj]
  have g6 : H7 (n + 1 + 1 + 1 + 1 + 1 + 1) = some (.loop (L43 TM)) := by rw [hH7, aW]
  clear hH7
  have old7 : Old h H7 n := fun j hj => by rw [o7 j (by omega), o5 j (by omega), o4 j (by omega), old3 j hj]
  have g0 : Row H7 n [sv] := ((r1'.aX (o4 n (by omega))).aX (o5 n (by omega))).aX (o7 n (by omega))
  have g1 : Row H7 (n + 1) [.int .i64 z] := ((r2'.aX (o4 (n + 1) (by omega))).aX (o5 (n + 1) (by omega))).aX (o7 (n + 1) (by omega))
  have g2 : H7 (n + 1 + 1) = some (Blk.row (bQ.l [a9.aV]) 43) := by rw [o7 _ (by omega), o5 _ (by omega), o4 _ (by omega)]; exact r3
  have g3 : Row H7 (n + 1 + 1 + 1) (aO (iQ aR) sv) := by
    refine Row.aX (h := H4) ⟨_, r4⟩ ?_
    rw [o7 _ (by omega), o5 _ (by omega)]
  have lt : ∀ (j : Nat), j < n → ∀ (h1 : Hp), (∀ j, j < n + 1 + 1 + 1 + 1 + 1 + 1 + 1 → j ≠ n + 1 + 1 → j ≠ n + 1 + 1 + 1 + 1 + 1 + 1 → h1 j = H7 j) → h1 j = H7 j := fun j hj h1 hk => hk j (by omega) (by omega) (by omega)
  have hS : S.length = L.length := perm.length_eq.symm
  have kt : AtN H7 (n + 1 + 1 + 1 + 1 + 1 + 1 + 1) (n + 1 + 1 + 1) sv (iQ aR) := ⟨⟨g3, hb.aX (fun j q => old7 j (hsn j q)), OJ _⟩, by omega, fun j q => by have := hsn j q; omega⟩
  have sl7 := iv.s.aX (h' := H7) (fun j q => old7 j (mn j (ms j q)).1)
  have sp7 := iv.sp.mono (h' := H7) (D' := D) (fun j q => q) (fun j q => old7 j (iv.dn j q))
  have hro : Roomy vs := by
    have q := iv.s
    generalize S.length = len at q
    cases q with
    | nil => trivial
    | zero => exact Nat.le_refl _
    | sl => trivial
  refine wp_mono ((f109 true (.fn (.yield (n + 1 + 1 + 1 + 1 + 1 + 1)) [] []) (n + 1 + 1 + 1 + 1) (n + 1 + 1 + 1 + 1 + 1) x 3 _ vs (n + 1 + 1 + 1) sv (iQ aR) S.length xs S D
    (fun k h1 n1 => ∃ nS, P43 H7 n S aR z nS k h1 n1 ∧ h1 (n + 1 + 1 + 1 + 1 + 1 + 1) = some (.loop (L43 TM)))
    (fun h1 n1 => ∃ l nS k, h1 (n + 1 + 1 + 1 + 1 + 1 + 1) = some (.loop l) ∧ l.state = .done ∧ l.pending = some (.exit 0) ∧ pos true S (iQ aR) ≤ k ∧ P43 H7 n S aR z nS k h1 n1 ∧ ∀ hk : k < S.length, S[k].aR ≠ aR)
    H7 (n + 1 + 1 + 1 + 1 + 1 + 1 + 1) (row4.aX (o7 _ (by omega))) (row5.aX (o7 _ (by omega))) (iv.row.aX (old7 x iv.xn)) rfl rfl (by omega) sl7.rds hro (fun j q => by have := (mn j (ms j q)).1; omega) sp7 (fun j q => by have := iv.dn j q; omega) kt (rS.mono _) f7 (by omega) (by have := iv.xn; omega) ?_ ?_ ?_).free f7) ?_
  · rintro k h1 n1 ⟨nS, p, _⟩
    exact ⟨sl7.rds.aX (fun j q => lt j (mn j (ms j q)).1 h1 p.kp), sp7.mono (fun j q => q) (fun j q => lt j (iv.dn j q) h1 p.kp), p.fr⟩
  · intro p h' n' hpos hn' hf' ho'
    rw [hpos.eq]
    exact ⟨n', ⟨hf', by omega, Nat.le_refl _, fun j hj _ _ => ho' j hj, ⟨.aV, [], (ho' _ (by omega)).trans g2, by rw [I8]; exact .nil, by rw [I8]; exact Vs.nil _ _, fun j q => by cases q⟩, fun i hi h1 h2 => by omega⟩, (ho' _ (by omega)).trans g6⟩
  · rintro p k hk id sv2 h1 n1 hpos hpk ⟨nS, pp, hlo⟩ hx a d1 d2
    have hpk' : pos true S (iQ aR) ≤ k := by rw [← hpos.eq]; exact hpk
    have hidn := iv.dn id d1
    have h77 := pp.n7
    have hns := pp.ns
    refine mK hlo rfl rfl ?_
    simp only [J1, List.getD_cons_zero, lJ, List.zip_cons_cons, List.zip_nil_left, L43, TM, cQ, Try.f43, Option.getD_some, aC, fgr, execOp, opd, aD, put, nth, aB, gL, gB]
    refine ⟨_, hlo, rfl, ?_⟩
    obtain ⟨h2, hh2⟩ : ∃ h2, h2 = upd h1 (n + 1 + 1 + 1 + 1 + 1 + 1) (some (Blk.loop { L43 TM with state := .busy })) := ⟨_, rfl⟩
    have ho2 : ∀ j, j ≠ n + 1 + 1 + 1 + 1 + 1 + 1 → h2 j = h1 j := fun j hj => by rw [hh2, aP _ _ hj]
    have hlo2 : h2 (n + 1 + 1 + 1 + 1 + 1 + 1) = some (.loop { L43 TM with state := .busy }) := by rw [hh2, aW]
    have hf2 : bO h2 n1 := by rw [hh2]; exact pp.fr.upd (by omega)
    show Run env 43 _ _ _ _ _ (upd h1 (n + 1 + 1 + 1 + 1 + 1 + 1) (some (Blk.loop { L43 TM with state := .busy }))) n1
    rw [← hh2]
    clear hh2
    have a2 : At h2 id sv2 S[k] := a.aX (ho2 id (by omega)) (fun j q => ho2 j (by have := iv.dn j (d2 j q); omega))
    have to7 : ∀ j, j < n + 1 + 1 → h2 j = H7 j := fun j hj => (ho2 j (by omega)).trans (pp.kp j (by omega) (by omega) (by omega))
    have rs : Row h2 n [sv] := g0.aX (to7 n (by omega))
    have rz : Row h2 (n + 1) [.int .i64 z] := g1.aX (to7 (n + 1) (by omega))
    have bs : Bytes h2 sv aR := hb.aX (fun j q => (to7 j (by have := hsn j q; omega)).trans (old7 j (hsn j q)))
    obtain ⟨acc, cells, q1, q2, q3, q4⟩ := pp.cl
    simp only [IW, List.getD_cons_zero, cQ, Try.f43, Option.getD_some, aC, fgr, List.nil_append, List.append_nil]
    refine cG ⟨rfl, ?_⟩
    simp only [aF, aI, aC, tyr, execOp, opd, aD, put, nth, und, sizeOf, nilCheck, aZ, aS, fieldAddr, Nat.reduceAdd, gL, gI]
    rw [bP (iO a2.row a2.ok)]
    simp only [aF, execOp, opd, aD, put, nth, Nat.reduceAdd]
    rw [bP (rs.one (off := 0) rfl uC rfl)]
    simp only [aF, hkr, execOp, opd, bG, aD, put, nth, aL, aE, Nat.reduceAdd, gL]
    refine eF hf2 (f89 sv2 sv _ aR h2 n1 a2.s bs) fun v6 h6 n6 r6 w6 hn6 f6' ⟨e6, e7, e8⟩ => ?_
    subst e6; subst e7; subst e8
    cases hq : (S[k].aR == aR) with
    | false =>
      simp only [bY, aF, aI, aC, bH, fgr, execOp, opd, aD, put, nth, aB, unOp, Nat.reduceAdd, gB]
      refine ⟨(by (try simp (disch := first | assumption | omega) only [dF, List.all_cons, List.all_nil, gB, gF]); repeat' (first | rfl | exact (Bool.or_eq_true _ _).mpr (.inr rfl) | refine (Bool.and_eq_true _ _).mpr ⟨?_, ?_⟩)), _, hlo2, .inr ⟨.inl rfl, _, nS, k, aW _ _ _, rfl, rfl, hpk', ⟨hf2.upd (by omega), h77, hns, fun j hj h1' h2' => by rw [aP _ _ h2', ho2 j h2']; exact pp.kp j hj h1' h2', ⟨acc, cells, by rw [aP _ _ (by omega), ho2 _ (by omega)]; exact q1, q2.aX (fun j q => by rw [aP _ _ (by have := q4 j q; omega), ho2 _ (by have := q4 j q; omega)]), q3.mono (fun j q => q) (fun j q => by rw [aP _ _ (by omega), ho2 _ (by omega)]), q4⟩, pp.sm⟩, fun _ => beq_eq_false_iff_ne.1 hq⟩⟩
    | true =>
      simp only [bY, aF, aI, aC, fgr, execOp, opd, aD, put, nth, aB, unOp, Nat.reduceAdd, gB]
      refine ⟨(by (try simp (disch := first | assumption | omega) only [dF, List.all_cons, List.all_nil, gB, gF]); repeat' (first | rfl | exact (Bool.or_eq_true _ _).mpr (.inr rfl) | refine (Bool.and_eq_true _ _).mpr ⟨?_, ?_⟩)), ?_⟩
      have hsc : S[k].aR = aR := beq_iff_eq.1 hq
      have sm' : ∀ i (hi : i < S.length), pos true S (iQ aR) ≤ i → i < k + 1 → S[i].aR = aR := fun i hi h1' h2' => by
        by_cases e : i = k
        · subst e; exact hsc
        · exact pp.sm i hi h1' (by omega)
      refine cG ⟨rfl, ?_⟩
      simp only [aF, aI, execOp, opd, aD, put, nth, nilCheck, Nat.reduceAdd, gI]
      rw [bP (eN a2.row a2.ok)]
      simp only [aF, execOp, opd, aD, put, nth, Nat.reduceAdd]
      rw [bP (rz.one (off := 0) rfl ti3 rfl)]
      simp only [aF, hkr, execOp, opd, bG, aD, put, nth, aL, aE, Nat.reduceAdd, gL]
      refine eF hf2 (f82 S[k] sv2 a2.ok z h6 n6 hf2) fun v7 h8 n8 r7 w7 hn8 f8 ⟨e7, o8⟩ => ?_
      subst e7
      have hlo8 : h8 (n + 1 + 1 + 1 + 1 + 1 + 1) = some (.loop { L43 TM with state := .busy }) := (o8 _ (by omega)).trans hlo2
      have keep8 : ∀ j, j < n6 → j ≠ n + 1 + 1 + 1 + 1 + 1 + 1 → h8 j = h1 j := fun j hj hne => (o8 j hj).trans (ho2 j hne)
      cases hth : there S[k] z with
      | false =>
        simp only [bY, aC, fgr, opd, aD, put, nth, aB, Nat.reduceAdd]
        refine ⟨(by (try simp (disch := first | assumption | omega) only [dF, List.all_cons, List.all_nil, gB, gF]); repeat' (first | rfl | exact (Bool.or_eq_true _ _).mpr (.inr rfl) | refine (Bool.and_eq_true _ _).mpr ⟨?_, ?_⟩)), _, hlo8, .inl ⟨.inl rfl, nS, ⟨f8.upd (by omega), h77, by omega, fun j hj h1' h2' => by rw [aP _ _ h2', keep8 j (by omega) h2']; exact pp.kp j hj h1' h2', ⟨acc, cells, by rw [aP _ _ (by omega), keep8 _ (by omega) (by omega)]; exact q1, ?_, ?_, q4⟩, sm'⟩, aW _ _ _⟩⟩
        · rw [zI hpk' hk, hth]
          exact q2.aX (fun j q => by rw [aP _ _ (by have := q4 j q; omega), keep8 _ (q2.live pp.fr q) (by have := q4 j q; omega)])
        · rw [zI hpk' hk, hth]
          exact q3.mono (fun j q => ⟨q.1, by omega, q.2.2⟩) (fun j q => by rw [aP _ _ (by omega), keep8 _ q.2.1 (by omega)])
      | true =>
        simp only [bY, aC, fgr, opd, aD, put, nth, aB, Nat.reduceAdd]
        refine ⟨(by (try simp (disch := first | assumption | omega) only [dF, List.all_cons, List.all_nil, gB, gF]); repeat' (first | rfl | exact (Bool.or_eq_true _ _).mpr (.inr rfl) | refine (Bool.and_eq_true _ _).mpr ⟨?_, ?_⟩)), ?_⟩
        have a8 : At h8 id sv2 S[k] := a2.aX (o8 id (by omega)) (fun j q => o8 j (by have := iv.dn j (d2 j q); omega))
        have cell : Row h8 (n + 1 + 1) [acc] := ⟨_, (keep8 _ (by omega) (by omega)).trans q1⟩
        refine cG ⟨rfl, ?_⟩
        simp only [aF, execOp, opd, nth]
        rw [bP (cell.one (off := 0) rfl oC rfl)]
        simp only [aF, aI, execOp, opd, aD, put, nth, nilCheck, Nat.reduceAdd, gI]
        rw [bP (eN a8.row a8.ok)]
        simp only [aF, hkr, execOp, opd, bG, aD, put, nth, aL, aE, Nat.reduceAdd, gL]
        have fo8 : bO (only (fun j => decide (bB sv2 = some j)) h8) n8 := fun j hj => by
          unfold only
          split
          · exact f8 j hj
          · rfl
        refine wC (fun j => decide (bB sv2 = some j)) f8 (f77 S[k] sv2 a8.ok (only (fun j => decide (bB sv2 = some j)) h8) n8 (a8.s.aX fun j q => gY (decide_eq_true q)) (fun j q => by have := iv.dn j (d2 j q); omega) (ok _ (perm.mem_iff.2 (List.getElem_mem hk))).2 fo8) fun v9 h9 n9 r9 w9 hr9 hn9 f9 ⟨s', e9, b9, i9, o9⟩ hin hout hr hw => ?_
        subst e9
        have old9 : Old h8 h9 n8 := fun j hj => by
          by_cases q : bB sv2 = some j
          · rw [hin j (.inl (decide_eq_true q)), o9 j hj, gY (decide_eq_true q)]
          · exact hout j hj (decide_eq_false q)
        have b9' : Bytes h9 s' S[k].aR := b9.aX (fun j q => hin j (.inr (i9 j q).1))
        simp only [aF, execOp, opd, dE, aD, put, nth, Nat.reduceAdd, HR (bM a8.ok.h a8.ok.b)]
        refine jI dY f9 fun H10 r10 o10 f10 => ?_
        simp only [aF, execOp, opd, bG, aD, put, nth, aL, builtin, fC, Nat.reduceAdd]
        have old10 : Old h8 H10 n8 := fun j hj => by rw [o10 j (by omega), old9 j hj]
        have accl : ∀ j, bB acc = some j → j < n6 := fun j q => q2.live pp.fr q
        have acck : ∀ j, bB acc = some j → H10 j = h1 j := fun j q => by rw [old10 j (by have := accl j q; omega), keep8 j (accl j q) (by have := q4 j q; omega)]
        have tl := N4 S (pos true S (iQ aR)) k z
        refine eF f10 (mA (i := fG.i) (e := 31) (Q1 := fun v' h' n' => n9 + 1 ≤ n' ∧ bO h' n' ∧ Lst h' 31 70 v' ((told S (pos true S (iQ aR)) k z).length + 1) (cells ++ aO S[k] s') ∧ (bB v' = bB acc ∨ bB v' = some (n9 + 1) ∧ n9 + 1 < n') ∧ ∀ j, j < n9 + 1 → bB acc ≠ some j → h' j = H10 j) (q2.aX acck) (nE (cnt := 1) r10 (by rw [bM a8.ok.h a8.ok.b]; rfl)) u43 u43 dY (cL b9.kind.2.1) (by decide) (by show 2 * (_ + 1) * 128 ≤ _; omega) (by omega) f10 (fun v' h' n' a b c d e => ⟨a, b, c, d, e⟩)) fun v11 h11 n11 r11 w11 hn11 f11 ⟨_, _, l11, i11, o11⟩ => ?_
        have o111 : ∀ j, j < n8 → bB acc ≠ some j → j ≠ n + 1 + 1 + 1 + 1 + 1 + 1 → j < n6 → h11 j = h1 j := fun j a b c d => by rw [o11 j (by omega) b, old10 j a, keep8 j d c]
        have c11 : h11 (n + 1 + 1) = some (Blk.row (bQ.l [acc]) 43) := (o111 _ (by omega) (fun q => by have := q4 _ q; omega) (by omega) (by omega)).trans q1
        have l11n : ∀ j, j < n9 + 1 → bB acc ≠ some j → bB v11 ≠ some j := fun j hj hn q => by
          rcases i11 with w | ⟨w, _⟩
          · rw [w] at q; exact hn q
          · rw [w] at q; injection q with q; omega
        have nw : n + 1 + 1 ∉ w9 := fun q => by have := iv.dn _ (d2 _ (of_decide_eq_true (hw _ q))); omega
        have nr : n + 1 + 1 ∉ r9 := fun q => by have := iv.dn _ (d2 _ (of_decide_eq_true (hr _ q))); omega
        have v11k := l11.rds.kind
        have v11n : ∀ j, bB v11 = some j → nS ≤ j := fun j q => by
          rcases i11 with w | ⟨w, _⟩
          · rw [w] at q; exact q4 j q
          · rw [w] at q; injection q with q; omega
        simp only [aF, execOp, opd, aD, put, nth, Nat.reduceAdd]
        refine jH (Row.write (v := v11) c11 oC (by rw [v11k.1]; rfl) (by show 0 + 1 ≤ 1; omega) (by rw [v11k.1]; simp [v11k.2.1])) ?_
        rw [v11k.1, show cB [acc] 0 [v11] = [v11] from rfl]
        simp only [bY, aC, fgr, aD, aB, Nat.reduceAdd]
        refine ⟨(by (try simp (disch := first | assumption | omega) only [dF, List.all_cons, List.all_nil, gB, gF]); repeat' (first | rfl | exact (Bool.or_eq_true _ _).mpr (.inr rfl) | refine (Bool.and_eq_true _ _).mpr ⟨?_, ?_⟩)), _, (aP _ _ (by omega)).trans ((o11 _ (by omega) (fun q => by have := q4 _ q; omega)).trans ((old10 _ (by omega)).trans hlo8)), .inl ⟨.inl rfl, nS, ⟨(f11.upd (by omega)).upd (by omega), h77, by omega, fun j hj h1' h2' => ?_, ⟨v11, cells ++ aO S[k] s', by rw [aP _ _ (by omega), aW], ?_, ?_, v11n⟩, sm'⟩, aW _ _ _⟩⟩
        · rw [aP _ _ h2', aP _ _ h1', o111 j (by omega) (fun q => by have := q4 j q; omega) h2' (by omega)]; exact pp.kp j hj h1' h2'
        · rw [zI hpk' hk, hth, if_pos rfl, List.length_append]
          exact l11.aX (fun j q => by rw [aP _ _ (by have := v11n j q; omega), aP _ _ (by have := v11n j q; omega)])
        · rw [zI hpk' hk, hth, if_pos rfl]
          have ne2 : ∀ j, nS ≤ j → ∀ (H : Hp) b b2, upd (upd H (n + 1 + 1) b) (n + 1 + 1 + 1 + 1 + 1 + 1) b2 j = H j := fun j hj H b b2 => by rw [aP _ _ (by omega), aP _ _ (by omega)]
          refine (q3.mono (fun j q => ⟨q.1, by omega, l11n j (by omega) q.2.2⟩) (fun j q => by rw [ne2 j q.1, o111 j (by omega) q.2.2 (by omega) q.2.1])).snoc (b9'.aX fun j q => ?_) a8.ok (fun j q => ⟨by have := i9 j q; omega, by have := i9 j q; omega, l11n j (by have := i9 j q; omega) (fun w => by have := accl j w; have := i9 j q; omega)⟩)
          rw [ne2 j (by have := i9 j q; omega), o11 j (by have := i9 j q; omega) (fun w => by have := accl j w; have := i9 j q; omega), o10 j (by have := i9 j q; omega)]
  · rintro v5 h5 n5 ⟨⟨e5, hh⟩, hn5, f5'⟩
    have fin : ∀ (lo : kI) (nS k : Nat), pos true S (iQ aR) ≤ k → P43 H7 n S aR z nS k h5 n5 → (∀ hk : k < S.length, S[k].aR ≠ aR) →
        ∃ acc, Row (upd h5 (n + 1 + 1 + 1 + 1 + 1 + 1) (some (.loop lo))) (n + 1 + 1) [acc] ∧ Old h (upd h5 (n + 1 + 1 + 1 + 1 + 1 + 1) (some (.loop lo))) n ∧ ∃ S k, dM true S ∧ L.Perm S ∧ pos true S (iQ aR) ≤ k ∧ (∀ i (hi : i < S.length), pos true S (iQ aR) ≤ i → i < k → S[i].aR = aR) ∧ (∀ hk : k < S.length, S[k].aR ≠ aR) ∧ VL (upd h5 (n + 1 + 1 + 1 + 1 + 1 + 1) (some (.loop lo))) n n5 acc (told S (pos true S (iQ aR)) k z) := by
      intro lo nS k hk1 p hk3
      obtain ⟨acc, cells, c1, c2, c3, c4⟩ := p.cl
      have h7 := p.n7
      refine ⟨acc, ⟨_, (aP _ _ (by omega)).trans c1⟩, fun j hj => ?_, S, k, rS, perm, hk1, p.sm, hk3, cells, c2.aX (fun j q => aP _ _ (by have := c4 j q; omega)), c3.mono (fun j q => ⟨by omega, q.2.1, q.2.2⟩) (fun j q => aP _ _ (by omega)), fun j q => ⟨by have := c4 j q; omega, c2.live p.fr q⟩⟩
      rw [aP _ _ (by omega), lt j hj h5 p.kp, old7 j hj]
    rcases hh with ⟨nS, p, hlo⟩ | ⟨l, nS, k, hlo, hst, hpe, hk1, p, hk3⟩
    · refine ⟨_, hlo, (fun q => by cases q), .normal, rfl, ?_⟩
      obtain ⟨acc, hrow, res⟩ := fin { L43 TM with state := .exhausted } nS S.length (RK _ _ _) p (fun hk => absurd hk (Nat.lt_irrefl _))
      simp only [aC, execOp, opd, nth]
      rw [aM (hrow.one (off := 0) rfl oC rfl)]
      simp only [aC, fgr, execOp, opd, aD, put, nth, aB, gB]
      exact res
    · refine ⟨_, hlo, (fun q => by rw [hst] at q; cases q), .exit 0, by rw [hpe], ?_⟩
      obtain ⟨acc, hrow, res⟩ := fin { l with state := .exhausted } nS k hk1 p hk3
      simp only [aC, execOp, opd, nth]
      rw [aM (hrow.one (off := 0) rfl oC rfl)]
      simp only [aC, fgr, execOp, opd, aD, put, nth, aB, gB]
      exact res
theorem vF {o : Bool} : ∀ {A B : List Ver}, dM o A → dM o B → A.Perm B → A = B
  | [], B, _, _, h => (List.nil_perm.1 h).symm
  | a :: A, [], _, _, h => absurd (List.perm_nil.1 h) (by simp)
  | a :: A, b :: B, ra, rb, h => by
    have ha := List.pairwise_cons.1 ra
    have hb := List.pairwise_cons.1 rb
    have e : a = b := by
      by_cases q : a = b
      · exact q
      · have h1 : a ∈ B := (List.mem_cons.1 (h.mem_iff.1 List.mem_cons_self)).resolve_left q
        have h2 : b ∈ A := (List.mem_cons.1 (h.mem_iff.2 List.mem_cons_self)).resolve_left (fun w => q w.symm)
        have c1 := ha.1 b h2
        have c2 := hb.1 a h1
        have := (zR o).sO a b
        omega
    subst e
    rw [vF ha.2 hb.2 ((List.perm_cons a).1 h)]
def P2 (a b : Ver) : Int := nT a.hash a.pn b.hash b.pn
theorem Y3 : pF P2 := (pK.on Ver.hash).or (vK.on Ver.pn)
theorem oH {hash : List UInt8} {pn : Int} {v : Ver} : same hash pn v = true ↔ nT v.hash v.pn hash pn = 0 := by
  unfold same nT orI
  constructor
  · intro h
    simp only [Bool.and_eq_true, decide_eq_true_eq, beq_iff_eq] at h
    rw [h.1, h.2, if_pos (pT _)]
    exact sK.2 rfl
  · intro h
    split at h
    · rename_i q
      rw [FP _ _ q, sK.1 h]
      simp
    · contradiction
def atV (L : List Ver) (hash : List UInt8) (pn z : Int) : Option Ver := (L.filter fun v => same hash pn v && there v z).getLast?
def Good (v : Ver) : Prop := uG v = false ∧ 0 ≤ v.pn
theorem Good.made {v : Ver} (h : Good v) : 0 ≤ v.made := by
  have := h.1
  unfold uG at this
  simp only [Bool.or_eq_false_iff, decide_eq_false_iff_not] at this
  omega
theorem EY {a b : Int} (h : orI a b < 0) : a ≤ 0 := by
  unfold orI at h
  split at h <;> omega
theorem JF {a b : Int} (h : ¬ orI a b < 0) (hn : a ≠ 0) : 0 < a := by
  unfold orI at h
  rw [if_neg hn] at h
  omega
theorem Y0 {o : Ver → Ver → Int} (q : pF o) {a b t : Ver} (h1 : 0 < o a t) (h2 : o a b ≤ 0) : 0 < o b t := by
  have e1 := q.sO a t
  have e2 := q.sO b t
  rcases Int.lt_or_eq_of_le h2 with w | w
  · have := q.lt t a b (by omega) w; omega
  · have := q.eqr (d := t) w; omega
theorem wH {L : List Ver} {p k : Nat} (hpk : p ≤ k) (P th : Ver → Bool) (h1 : ∀ i (hi : i < L.length), i < p → P L[i] = false) (h2 : ∀ i (hi : i < L.length), p ≤ i → i < k → P L[i] = true) (h3 : ∀ i (hi : i < L.length), k ≤ i → P L[i] = false) :
    ((L.take k).drop p).filter th = L.filter fun v => P v && th v := by
  have e : L = L.take p ++ ((L.take k).drop p ++ L.drop k) := by
    rw [← List.append_assoc]
    have : L.take p = (L.take k).take p := by rw [List.take_take, Nat.min_eq_left hpk]
    rw [this, List.take_append_drop, List.take_append_drop]
  conv => rhs; rw [e]
  rw [List.filter_append, List.filter_append]
  have f1 : (L.take p).filter (fun v => P v && th v) = [] := by
    rw [List.filter_eq_nil_iff]
    intro a ha
    obtain ⟨i, hi, rfl⟩ := List.mem_iff_getElem.1 ha
    rw [List.length_take] at hi
    rw [List.getElem_take, h1 i (by omega) (by omega)]
    simp
  have f3 : (L.drop k).filter (fun v => P v && th v) = [] := by
    rw [List.filter_eq_nil_iff]
    intro a ha
    obtain ⟨i, hi, rfl⟩ := List.mem_iff_getElem.1 ha
    rw [List.length_drop] at hi
    rw [List.getElem_drop, h3 (k + i) (by omega) (by omega)]
    simp
  rw [f1, f3, List.append_nil, List.nil_append]
  refine List.filter_congr fun a ha => ?_
  obtain ⟨i, hi, rfl⟩ := List.mem_iff_getElem.1 ha
  rw [List.length_drop, List.length_take] at hi
  have q := h2 (p + i) (by omega) (by omega) (by omega)
  rw [List.getElem_drop, List.getElem_take, q, Bool.true_and]
theorem MQ {L : List Ver} {hash : List UInt8} {pn : Int} {k : Nat} (r : dM false L) (g : ∀ v ∈ L, Good v) (hk : pos false L (key hash pn 0) ≤ k)
    (sm : ∀ i (hi : i < L.length), pos false L (key hash pn 0) ≤ i → i < k → same hash pn L[i] = true) (ne : ∀ hk : k < L.length, same hash pn L[k] = false) (th : Ver → Bool) :
    ((L.take k).drop (pos false L (key hash pn 0))).filter th = L.filter fun v => same hash pn v && th v := by
  have P := nF r (key hash pn 0)
  have nn : ∀ i (hi : i < L.length), pos false L (key hash pn 0) ≤ i → same hash pn L[i] = false → 0 < P2 L[i] (key hash pn 0) := fun i hi h1 h2 =>
    JF (P.hi i hi h1) fun q => by have w : same hash pn L[i] = true := oH.2 q; rw [w] at h2; cases h2
  refine wH hk _ _ (fun i hi h => ?_) sm (fun i hi h => ?_)
  · cases hs : same hash pn L[i] with
    | false => rfl
    | true =>
      have h0 := P.lo i hi h
      have h1 : nT L[i].hash L[i].pn hash pn = 0 := oH.1 hs
      have h2 : fM L[i] (key hash pn 0) = kM L[i].made 0 := by
        show orI (nT L[i].hash L[i].pn hash pn) _ = _
        rw [h1]; rfl
      have h3 := (g _ (List.getElem_mem hi)).made
      have h4 : fM L[i] (key hash pn 0) < 0 := h0
      rw [h2, sJ] at h4
      omega
  · have hkl : k < L.length := by omega
    have h1 := nn k hkl hk (ne hkl)
    have h2 : 0 < P2 L[i] (key hash pn 0) := by
      by_cases q : i = k
      · subst q; exact h1
      · exact Y0 Y3 h1 (EY (r.at_ hkl hi (by omega)))
    cases hs : same hash pn L[i] with
    | false => rfl
    | true =>
      have : P2 L[i] (key hash pn 0) = 0 := oH.1 hs
      omega
theorem ad8 {L : List Ver} {hash : List UInt8} {pn z : Int} {k : Nat} (r : dM false L) (g : ∀ v ∈ L, Good v) (hk : pos false L (key hash pn 0) ≤ k)
    (sm : ∀ i (hi : i < L.length), pos false L (key hash pn 0) ≤ i → i < k → same hash pn L[i] = true) (ne : ∀ hk : k < L.length, same hash pn L[k] = false) :
    fnd L (pos false L (key hash pn 0)) k z = atV L hash pn z := by
  unfold fnd atV
  rw [MQ r g hk sm ne]
theorem CB : ∀ (l : List UInt8), ¬ Lib.compareBytes l (List.replicate l.length 0) < 0
  | [] => by decide
  | a :: l => by
    rw [List.length_cons, List.replicate_succ]
    unfold Lib.compareBytes
    have h1 : ¬ a < 0 := by simp [UInt8.lt_iff_toNat_lt]
    rw [if_neg h1]
    split
    · omega
    · exact CB l
theorem Y5 {v : Ver} {aR : List UInt8} (o : v.Ok) (g : Good v) (hs : v.aR = aR) : ¬ E3 v (iQ aR) < 0 := by
  have e1 : E3 v (iQ aR) = fM v (iQ aR) := by
    show orI (Lib.compareBytes v.aR aR) _ = _
    rw [hs, pT]; rfl
  rw [e1]
  have e2 : fM v (iQ aR) = orI (orI (Lib.compareBytes v.hash (List.replicate 32 0)) (kM v.pn 0)) (kM v.made 0) := rfl
  rw [e2]
  have z := CB v.hash
  rw [o.h] at z
  have m := g.made
  have p := g.2
  have n1 : ¬ kM v.pn 0 < 0 := by rw [sJ]; omega
  have n2 : ¬ kM v.made 0 < 0 := by rw [sJ]; omega
  unfold orI
  split
  · split
    · exact n2
    · exact n1
  · exact z
def ofV (L : List Ver) (aR : List UInt8) (z : Int) : List Ver := L.filter fun v => (v.aR == aR) && there v z
theorem of_eq {L S : List Ver} {aR : List UInt8} {z : Int} {k : Nat} (rL : dM false L) (rS : dM true S) (perm : L.Perm S) (ok : ∀ v ∈ L, v.Ok) (g : ∀ v ∈ L, Good v) (hk : pos true S (iQ aR) ≤ k)
    (sm : ∀ i (hi : i < S.length), pos true S (iQ aR) ≤ i → i < k → S[i].aR = aR) (ne : ∀ hk : k < S.length, S[k].aR ≠ aR) :
    told S (pos true S (iQ aR)) k z = ofV L aR z := by
  have P := nF rS (iQ aR)
  have ordB : pF (fun a b : Ver => Lib.compareBytes a.aR b.aR) := pK.on Ver.aR
  have e1 : told S (pos true S (iQ aR)) k z = S.filter fun v => (v.aR == aR) && there v z := by
    refine wH hk (fun v => v.aR == aR) _ (fun i hi h => ?_) (fun i hi h1 h2 => beq_iff_eq.2 (sm i hi h1 h2)) (fun i hi h => ?_)
    · cases hs : (S[i].aR == aR) with
      | false => rfl
      | true =>
        have hm := perm.mem_iff.2 (List.getElem_mem hi)
        exact absurd (P.lo i hi h) (Y5 (ok _ hm) (g _ hm) (beq_iff_eq.1 hs))
    · have hkl : k < S.length := by omega
      have h1 : 0 < Lib.compareBytes S[k].aR (iQ aR).aR := JF (P.hi k hkl hk) fun q => ne hkl (FP _ _ q)
      have h2 : 0 < Lib.compareBytes S[i].aR (iQ aR).aR := by
        by_cases q : i = k
        · subst q; exact h1
        · exact Y0 (o := fun a b : Ver => Lib.compareBytes a.aR b.aR) (t := iQ aR) ordB h1 (EY (rS.at_ hkl hi (by omega)))
      rw [beq_eq_false_iff_ne]
      intro hs
      rw [hs] at h2
      have : Lib.compareBytes aR (iQ aR).aR = 0 := pT aR
      omega
  rw [e1]
  refine vF (o := false) ?_ (rL.sublist List.filter_sublist) (perm.symm.filter _)
  refine (List.Pairwise.filter _ rS).imp_of_mem fun {a b} ha hb hab => ?_
  have s1 := (List.mem_filter.1 ha).2
  have s2 := (List.mem_filter.1 hb).2
  simp only [Bool.and_eq_true, beq_iff_eq] at s1 s2
  have : orI (Lib.compareBytes a.aR b.aR) (fM a b) < 0 := hab
  rw [s1.1, s2.1, pT] at this
  exact this
structure Ixk (K : Nat → Prop) (h : Hp) (n x : Nat) (L : List Ver) : Prop where
  ix : ∃ D M, Ix h n D M x L ∧ ∀ j, K j → j < n ∧ ¬ M j ∧ ¬ D j
  g : ∀ v ∈ L, Good v
theorem Ixk.rL {K : Nat → Prop} {h : Hp} {n x : Nat} {L : List Ver} (s : Ixk K h n x L) : dM false L := by
  obtain ⟨⟨D, M, i, _⟩, _⟩ := s
  exact i.r
theorem Ixk.ok {K : Nat → Prop} {h : Hp} {n x : Nat} {L : List Ver} (s : Ixk K h n x L) : ∀ v ∈ L, v.Ok ∧ v.aR.length ≤ 1000000 := by
  obtain ⟨⟨D, M, i, _⟩, _⟩ := s
  exact i.ok
theorem Ixk.k {K : Nat → Prop} {h : Hp} {n x : Nat} {L : List Ver} (s : Ixk K h n x L) {j : Nat} (hj : K j) : j < n := by
  obtain ⟨⟨D, M, i, q⟩, _⟩ := s
  exact (q j hj).1
theorem Ixk.sub {K K' : Nat → Prop} {h : Hp} {n x : Nat} {L : List Ver} (s : Ixk K h n x L) (hk : ∀ j, K' j → K j) : Ixk K' h n x L := by
  obtain ⟨⟨D, M, i, q⟩, g⟩ := s
  exact ⟨⟨D, M, i, fun j hj => q j (hk j hj)⟩, g⟩
theorem Ixk.grow {K : Nat → Prop} {h h' : Hp} {n n' x : Nat} {L : List Ver} (s : Ixk K h n x L) (hn : n ≤ n') (ho : Old h h' n) : Ixk (fun j => K j ∨ (n ≤ j ∧ j < n')) h' n' x L := by
  obtain ⟨⟨D, M, i, q⟩, g⟩ := s
  refine ⟨⟨D, M, i.old hn ho, fun j hj => ?_⟩, g⟩
  rcases hj with hj | hj
  · exact ⟨by have := (q j hj).1; omega, (q j hj).2⟩
  · obtain ⟨⟨S, ⟨vl, vs, xl, xs, iv, mx, ml, ms, mn⟩, _⟩, _⟩ := i
    exact ⟨hj.2, fun w => by have := (mn j w).1; omega, fun w => by have := iv.dn j w; omega⟩
theorem Ixk.old {K : Nat → Prop} {h h' : Hp} {n n' x : Nat} {L : List Ver} (s : Ixk K h n x L) (hn : n ≤ n') (ho : Old h h' n) : Ixk K h' n' x L := (s.grow hn ho).sub fun j q => .inl q
theorem Ixk.uZ {K : Nat → Prop} {h h' : Hp} {n x : Nat} {L : List Ver} (s : Ixk K h n x L) (hk : ∀ j, ¬ K j → h' j = h j) : Ixk K h' n x L := by
  obtain ⟨⟨D, M, i, q⟩, g⟩ := s
  exact ⟨⟨D, M, i.beside (Nat.le_refl _) fun j hj w => hk j fun c => by
    have := q j c
    rcases w with w | w
    · exact this.2.2 w
    · exact this.2.1 w, q⟩, g⟩
theorem Ix.xlt {h : Hp} {n x : Nat} {D M : Nat → Prop} {L : List Ver} (i : Ix h n D M x L) : x < n := by
  obtain ⟨⟨S, ⟨vl, vs, xl, xs, iv, _⟩, _⟩, _⟩ := i
  exact iv.xn
theorem Chg.k {K : Nat → Prop} {h h' : Hp} {n n' : Nat} {D M D' M' : Nat → Prop} (c : Chg h n D M h' n' D' M') (q : ∀ j, K j → j < n ∧ ¬ M j ∧ ¬ D j) : (∀ j, K j → h' j = h j) ∧ ∀ j, K j → j < n' ∧ ¬ M' j ∧ ¬ D' j := by
  refine ⟨fun j hj => c.old j (q j hj).1 (q j hj).2.1, fun j hj => ⟨by have := (q j hj).1; have := c.nx; omega, fun w => ?_, fun w => ?_⟩⟩
  · have := q j hj
    rcases c.m' j w with w | w
    · exact this.2.1 w
    · omega
  · have := q j hj
    rcases c.d' j w with w | w
    · exact this.2.2 w
    · omega
theorem B4 {L : List Ver} {v w : Ver} : w ∈ mP L v ↔ w = v ∨ w ∈ L := BG
theorem B5 (L : List Ver) (v : Ver) : (mP L v).length = L.length + 1 := (tE _ _ _).length_eq.trans rfl
theorem HN {L : List Ver} {v w : Ver} (h : w ∈ kP L v) : w ∈ L := AB h
theorem yV {w : Ver} {hash : List UInt8} {pn made : Int} (h : fM w (key hash pn made) = 0) : w.hash = hash ∧ w.pn = pn ∧ w.made = made := by
  have e : fM w (key hash pn made) = orI (nT w.hash w.pn hash pn) (kM w.made made) := rfl
  rw [e] at h
  unfold orI at h
  split at h
  · rename_i q
    have s := oH.2 q
    unfold same at s
    simp only [Bool.and_eq_true, decide_eq_true_eq, beq_iff_eq] at s
    exact ⟨s.1, s.2, sK.1 h⟩
  · contradiction
theorem A5 (w : Ver) : fM w (key w.hash w.pn w.made) = 0 := by
  have e : fM w (key w.hash w.pn w.made) = fM w w := rfl
  rw [e]; exact oL.refl w
def qB (L : List Ver) (w v : Ver) : List Ver := L.set (pos false L w) v
theorem FL {L : List Ver} {w : Ver} (r : dM false L) (hw : w ∈ L) (s : Int) (b : List UInt8) : mP (kP L w) (gQ w s b) = qB L w (gQ w s b) := J5 r hw (oL.refl w)
theorem rG {L : List Ver} {w v u : Ver} (h : u ∈ qB L w v) : u = v ∨ u ∈ L := (List.mem_or_eq_of_mem_set h).symm
theorem vB (L : List Ver) (w v : Ver) : (qB L w v).length = L.length := List.length_set
theorem yU {w : Ver} (g : Good w) {s : Int} {b : List UInt8} (h : s = 0 ∨ (1 ≤ s ∧ w.made ≤ s)) : Good (gQ w s b) := by
  have m := g.made
  refine ⟨?_, g.2⟩
  unfold uG gQ
  simp only [Bool.or_eq_false_iff, decide_eq_false_iff_not, Bool.and_eq_false_iff]
  omega
theorem ab7 {K : Nat → Prop} {x : Nat} {L : List Ver} {h : Hp} {n : Nat} (hs : Ixk K h n x L) (hc : L.length ≤ 900000) (hf : bO h n) :
    Wp (bD env (evalW env) 32 [.ptr x 0]) h n fun v' h' n' => VL h' n n' v' L ∧ Old h h' n := by
  obtain ⟨⟨D, M, i, q⟩, g⟩ := hs
  exact f32 x L D M h n i (by omega) hf
def noV : Ver := ⟨List.replicate 32 0, 0, 0, 0, [], false, 0, List.replicate 32 0⟩
theorem JP : noV.Ok := ⟨rfl, rfl⟩
theorem z31n : fG.i.zero.cells = aO noV .aV := rfl
theorem VU {K : Nat → Prop} {x : Nat} (hash : List UInt8) (pn z : Int) (hl : hash.length = 32) {L : List Ver} {h : Hp} {n : Nat} (hs : Ixk K h n x L) (hc : L.length ≤ 900000) (hf : bO h n) :
    Wp (bD env (evalW env) 37 [.ptr x 0, .agg (aY hash pn), .int .i64 z]) h n fun v' h' n' => Old h h' n ∧ ∃ s', v' = .tup [.agg (aO ((atV L hash pn z).getD noV) s'), .bool (atV L hash pn z).isSome] ∧ ((atV L hash pn z).getD noV).Ok ∧ Bytes h' s' ((atV L hash pn z).getD noV).aR ∧ ∀ j, bB s' = some j → n ≤ j ∧ j < n' := by
  have rL := hs.rL
  obtain ⟨⟨D, M, i, q⟩, g⟩ := hs
  have ok := i.ok
  refine wp_mono (f37 x hash pn z hl L D M h n i (by omega) hf) fun v' h' n' ⟨o, k, hk, sm, ne, hh⟩ => ⟨o, ?_⟩
  rw [ad8 rL g hk sm ne] at hh
  rcases hh with ⟨e, hv⟩ | ⟨w, s', e, hv, hw, b, hj⟩
  · exact ⟨.aV, by rw [hv, e, z31n]; rfl, by rw [e]; exact JP, by rw [e]; exact .aV, fun j q => by cases q⟩
  · exact ⟨s', by rw [hv, e]; rfl, by rw [e]; exact (ok w hw).1, by rw [e]; exact b, hj⟩
theorem f43k {K : Nat → Prop} {x : Nat} (sv : a9) (aR : List UInt8) (z : Int) {L : List Ver} {h : Hp} {n : Nat} (hs : Ixk K h n x L) (hb : Bytes h sv aR) (hsn : ∀ j, bB sv = some j → j < n) (hc : L.length ≤ 900000) (hf : bO h n) :
    Wp (bD env (evalW env) 43 [.ptr x 0, sv, .int .i64 z]) h n fun v' h' n' => VL h' n n' v' (ofV L aR z) ∧ Old h h' n := by
  have rL := hs.rL
  obtain ⟨⟨D, M, i, q⟩, g⟩ := hs
  have ok := i.ok
  refine wp_mono (f43 x sv aR z L D M h n i hb hsn (by omega) hf) fun v' h' n' ⟨o, S, k, rS, perm, hk, sm, ne, v⟩ => ⟨?_, o⟩
  rwa [of_eq rL rS perm (fun v hv => (ok v hv).1) g hk sm ne] at v
def z0 : List UInt8 := List.replicate 32 0
def b9 : List UInt8 := 9 :: List.replicate 31 0
theorem k5 : Try.prog.cellsOf 5 = 1 := by kernel_rfl
theorem k2 : Try.prog.cellsOf 2 = 1 := by kernel_rfl
theorem k3 : Try.prog.cellsOf 3 = 1 := by kernel_rfl
theorem k4 : Try.prog.cellsOf 4 = 1 := by kernel_rfl
theorem k25 : Try.prog.cellsOf 25 = 32 := by kernel_rfl
theorem k26 : Try.prog.cellsOf 26 = 1 := by kernel_rfl
theorem k28 : Try.prog.cellsOf 28 = 33 := by kernel_rfl
theorem k29 : Try.prog.cellsOf 29 = 1 := by kernel_rfl
theorem k31 : Try.prog.cellsOf 31 = 70 := by kernel_rfl
theorem WS (b : UInt8) : toByte (u8 b) = b := by simp [toByte, u8]
theorem sN {vs : List a9} (ha : Arg Try.prog 25 vs) : ∃ l : List UInt8, vs = l.map u8 ∧ l.length = 32 := by
  obtain ⟨hl, he⟩ := ha.HV Try.underlying25
  rw [k25] at hl
  refine ⟨vs.map toByte, ?_, by simpa using hl⟩
  rw [List.map_map]
  refine List.ext_getElem (by simp) fun i h1 h2 => ?_
  have q := he i (by omega)
  rw [k5, Nat.mul_one] at q
  obtain ⟨z, e, hw⟩ := q.dB Try.underlying5
  have e' : vs[i] = .int .u8 z := by
    have : ((vs.drop i).take 1)[0]? = some vs[i] := by simp [List.getElem?_drop, h1]
    rw [e] at this
    simpa using this.symm
  rw [List.getElem_map, Function.comp, e']
  have : a9.int .u8 z = u8 (byteOf z) := by rw [u8, yY hw]
  rw [this, WS]
theorem mF (vs : List a9) (a k : Nat) : vs.drop a = (vs.drop a).take k ++ vs.drop (a + k) := by
  rw [← List.drop_drop, List.take_append_drop]
theorem zA {vs : List a9} (ha : Arg Try.prog 28 vs) : ∃ (hash : List UInt8) (pn : Int), vs = aY hash pn ∧ hash.length = 32 ∧ 0 ≤ pn := by
  obtain ⟨hl, he⟩ := ha.lC Try.underlying28
  rw [k28] at hl
  have q0 : Arg Try.prog 25 ((vs.drop 0).take (Try.prog.cellsOf 25)) := he 0 _ rfl
  have q1 : Arg Try.prog 26 ((vs.drop 32).take (Try.prog.cellsOf 26)) := he 1 _ rfl
  rw [k25] at q0
  rw [k26] at q1
  obtain ⟨hash, e0, hh⟩ := sN q0
  obtain ⟨pn, e1, hw⟩ := q1.dB Try.underlying26
  refine ⟨hash, pn, ?_, hh, ?_⟩
  · have c0 := mF vs 0 32
    have c1 := mF vs (0 + 32) 1
    rw [List.drop_zero] at c0
    rw [List.drop_zero] at e0
    rw [e0, c1, e1, List.drop_eq_nil_of_le (show vs.length ≤ 0 + 32 + 1 by omega)] at c0
    rw [c0]; rfl
  · simp only [Lit.wf, Bool.and_eq_true, decide_eq_true_eq] at hw
    exact hw.1
structure EG (v : Ver) (sv : a9) : Prop where
  ok : v.Ok
  pn : 0 ≤ v.pn
  s : CQ sv v.aR
  sl : v.aR.length ≤ maxLen
  m : (Lit.int .i64 v.made).wf = true
theorem PG {vs : List a9} (ha : Arg Try.prog 31 vs) : ∃ v sv, vs = aO v sv ∧ EG v sv := by
  obtain ⟨hl, he⟩ := ha.lC Try.underlying31
  rw [k31] at hl
  have q0 : Arg Try.prog 28 ((vs.drop 0).take (Try.prog.cellsOf 28)) := he 0 _ rfl
  have q1 : Arg Try.prog 3 ((vs.drop 33).take (Try.prog.cellsOf 3)) := he 1 _ rfl
  have q2 : Arg Try.prog 2 ((vs.drop 34).take (Try.prog.cellsOf 2)) := he 2 _ rfl
  have q3 : Arg Try.prog 29 ((vs.drop 35).take (Try.prog.cellsOf 29)) := he 3 _ rfl
  have q4 : Arg Try.prog 4 ((vs.drop 36).take (Try.prog.cellsOf 4)) := he 4 _ rfl
  have q5 : Arg Try.prog 3 ((vs.drop 37).take (Try.prog.cellsOf 3)) := he 5 _ rfl
  have q6 : Arg Try.prog 25 ((vs.drop 38).take (Try.prog.cellsOf 25)) := he 6 _ rfl
  rw [k28] at q0
  rw [k3] at q1 q5
  rw [k2] at q2
  rw [k29] at q3
  rw [k4] at q4
  rw [k25] at q6
  obtain ⟨hash, pn, e0, hh, hp⟩ := zA q0
  obtain ⟨made, e1, w1⟩ := q1.dB Try.underlying3
  obtain ⟨value, e2, w2⟩ := q2.dB Try.underlying2
  have e3 : ∃ sv, (vs.drop 35).take 1 = [sv] := by
    have : ((vs.drop 35).take 1).length = 1 := by simp; omega
    exact List.length_eq_one_iff.1 this
  obtain ⟨sv, e3⟩ := e3
  rw [e3] at q3
  obtain ⟨aR, hb, hbl⟩ := HW Try.underlying29 Try.underlying5 k5 q3
  obtain ⟨base, e4⟩ := q4.jL Try.underlying4
  obtain ⟨bZ, e5, w5⟩ := q5.dB Try.underlying3
  obtain ⟨by_, e6, hby⟩ := sN q6
  refine ⟨⟨hash, pn, made, value, aR, base, bZ, by_⟩, sv, ?_, ⟨⟨hh, hby⟩, hp, hb, hbl, w1⟩⟩
  have c0 := mF vs 0 33
  rw [List.drop_zero] at c0
  rw [List.drop_zero] at e0
  rw [e0, mF vs (0 + 33) 1, e1, mF vs (0 + 33 + 1) 1, e2, mF vs (0 + 33 + 1 + 1) 1, e3, mF vs (0 + 33 + 1 + 1 + 1) 1, e4, mF vs (0 + 33 + 1 + 1 + 1 + 1) 1, e5, mF vs (0 + 33 + 1 + 1 + 1 + 1 + 1) 32, e6, List.drop_eq_nil_of_le (show vs.length ≤ 0 + 33 + 1 + 1 + 1 + 1 + 1 + 32 by omega)] at c0
  rw [c0]
  simp [aO, mL]
structure OpI where
  kind : Int
  v : Ver
  at_ : Int
theorem AE (f : Nat → a9) (o n : Nat) : (cut f o n).length = n := by simp [cut]
theorem sI (f : Nat → a9) (o n : Nat) {j : Nat} (h : j < (cut f o n).length) : (cut f o n)[j] = f (o + j) := by simp [cut]
theorem AD (f : Nat → a9) (o n a b : Nat) (h : a + b ≤ n) : ((cut f o n).drop a).take b = cut f (o + a) b := by
  refine List.ext_getElem (by simp [cut]; omega) fun i h1 h2 => ?_
  rw [List.getElem_take, List.getElem_drop, sI, sI, Nat.add_assoc]
theorem piece {xs ys : List a9} {a b i : Nat} (h : (xs.drop a).take b = ys) (hi : i < b) : xs[a + i]? = ys[i]? := by
  rw [← h, List.getElem?_take, if_pos hi, List.getElem?_drop]
section
variable {h : Hp} {n id : Nat} {o : OpI} {sv : a9}
end
structure Small (L : List Ver) (i : Nat) : Prop where
  len : L.length ≤ i
  s : ∀ v ∈ L, v.aR.length ≤ 200
theorem Small.set {L : List Ver} {i : Nat} {w v : Ver} (s : Small L i) (hw : w ∈ L) (hv : v.aR = w.aR) : Small (qB L w v) (i + 1) :=
  ⟨by rw [vB]; have := s.len; omega, fun u hu => by
    rcases rG hu with rfl | hu
    · rw [hv]; exact s.s w hw
    · exact s.s u hu⟩
theorem HI (v : Ver) : xR v v = true := by
  unfold xR
  simp [show nT v.hash v.pn v.hash v.pn = 0 from Y3.refl v]
theorem II {L : List Ver} (r : dM false L) {w : Ver} (hw : w ∈ L) (v : Ver) : qB L w v = L.map fun u => if fM u w = 0 then v else u := by
  obtain ⟨hp, hpw⟩ := pos_at r (nF r w) hw
  unfold qB
  refine List.ext_getElem (by simp) fun i h1 h2 => ?_
  rw [List.getElem_set, List.getElem_map]
  have hi : i < L.length := by simpa using h1
  by_cases c : pos false L w = i
  · subst c
    rw [if_pos rfl, if_pos (by rw [hpw]; exact oL.refl w)]
  · rw [if_neg c, if_neg fun q => ?_]
    have := kC r (List.getElem_mem hi) hw q
    rcases Nat.lt_trichotomy (pos false L w) i with d | d | d
    · have q2 := r.at_ hp hi d
      rw [hpw, this] at q2
      have := oL.refl w
      have : fM w w < 0 := q2
      omega
    · exact c d
    · have q2 := r.at_ hi hp d
      rw [hpw, this] at q2
      have := oL.refl w
      have : fM w w < 0 := q2
      omega
theorem VL.aX {h h' : Hp} {a b : Nat} {v : a9} {vs : List Ver} (l : VL h a b v vs) (hk : ∀ j, a ≤ j → j < b → h' j = h j) : VL h' a b v vs := by
  obtain ⟨cells, c1, c2, c3⟩ := l
  exact ⟨cells, c1.aX fun j q => hk j (c3 j q).1 (c3 j q).2, c2.mono (fun j q => q) (fun j q => hk j q.1 q.2.1), c3⟩
theorem VL.old {h h' : Hp} {a b n : Nat} {v : a9} {vs : List Ver} (l : VL h a b v vs) (hn : b ≤ n) (hk : Old h h' n) : VL h' a b v vs := l.aX fun j _ q => hk j (by omega)
structure VAt (h : Hp) (a b : Nat) (v : a9) (k : Nat) (w : Ver) (sw : a9) : Prop where
  ok : w.Ok
  all : ∀ n, Rd (load env 31 (addrOf k v)) h n (rid v) (.agg (aO w sw))
  pt : ∀ n, Rd (load env 28 (addrOf k v)) h n (rid v) (.agg (aY w.hash w.pn))
  made : ∀ n, Rd (load env 3 (addrOf (k + 33) v)) h n (rid v) (.int .i64 w.made)
  bZ : ∀ n, Rd (load env 3 (addrOf (k + 37) v)) h n (rid v) (.int .i64 w.bZ)
  aR : ∀ n, Rd (load env 29 (addrOf (k + 35) v)) h n (rid v) sw
  mv : ∀ k m, aS m (addrOf k v) = M.pure (addrOf (k + m) v)
  s : Bytes h sw w.aR
  sn : ∀ j, bB sw = some j → a ≤ j ∧ j < b
theorem VL.at_ {h : Hp} {a b : Nat} {v : a9} {vs : List Ver} (l : VL h a b v vs) {i : Nat} (hi : i < vs.length) : ∃ sw, VAt h a b v (i * 70) vs[i] sw := by
  obtain ⟨cells, c1, c2, c3⟩ := l
  obtain ⟨sw, e, bs, o, d⟩ := c2.at_ i hi
  have hr := c1.rds
  have hl : i * 70 + 70 ≤ cells.length := by rw [c2.len]; omega
  have one : ∀ k x, k < 70 → (aO vs[i] sw)[k]? = some x → cells[i * 70 + k]? = some x := fun k x hk hx => by rw [piece e hk, hx]
  refine ⟨sw, o, fun n => ?_, fun n => ?_, fun n => hr.load ti3 rfl (one 33 _ (by omega) (jE o.h 0)), fun n => hr.load ti3 rfl (one 37 _ (by omega) (jE o.h 4)), fun n => hr.load uC rfl (one 35 _ (by omega) (jE o.h 2)), fun k m => jA hr (by omega) k m, bs, fun j q => ⟨(d j q).1, (d j q).2.1⟩⟩
  · have := hr.agg (E := env) (n := n) (k := i * 70) dY rfl (by decide) hl
    have e' : (cells.drop (i * 70)).take 70 = aO vs[i] sw := e
    exact e' ▸ this
  · have := hr.agg (E := env) (n := n) (k := i * 70) iK rfl (by decide) (by show i * 70 + 33 ≤ _; omega)
    have e' : (cells.drop (i * 70)).take 33 = aY vs[i].hash vs[i].pn := by
      rw [← uY (sv := sw) o.h, ← e, List.take_take]; rfl
    exact e' ▸ this
theorem VL.len {h : Hp} {a b : Nat} {v : a9} {vs : List Ver} (l : VL h a b v vs) {ts : List TypeId} : cY env (43 :: ts) v = M.pure (.int .i64 (vs.length : Nat)) := by
  obtain ⟨cells, c1, c2, c3⟩ := l
  exact c1.rds.cY u43
theorem VL.idx {h : Hp} {a b : Nat} {v : a9} {vs : List Ver} (l : VL h a b v vs) {i : Nat} (hi : i < vs.length) {h' : Hp} {n' : Nat} : Rd (indexAddr env 43 v (.int .i64 ((i : Nat) : Int))) h' n' [] (addrOf (i * 70) v) := by
  obtain ⟨cells, c1, c2, c3⟩ := l
  exact c1.rds.idx u43 Q9 rfl hi
def b1 : List UInt8 := 1 :: List.replicate 31 0
theorem jO {α : Type} {l : List α} {i : Nat} (h : i < l.length) : l.take (i + 1) = l.take i ++ [l[i]] := by
  rw [List.take_add_one, List.getElem?_eq_getElem h]; rfl
theorem t128 : ti env 128 = M.pure ⟨.pointer 31, 1, 8, .eZ⟩ := iV
theorem HZ {h : Hp} {n b cnt : Nat} {v : a9} {xs : List a9} (hb : h b = some (.row (.l []) 128)) (hv : Rds h 1 v cnt xs) (h1 : xs.all bN = true) (hc : cnt ≤ 1000000) (hf : bO h n) :
    Wp (fR env [95, 95] (.sl b 0 0 (some 0) 1) v) h n fun v' h' n' => (cnt = 0 ∧ v' = .sl b 0 0 (some 0) 1 ∧ h' = h ∧ n' = n) ∨ (0 < cnt ∧ v' = .sl n 0 cnt none 1 ∧ h' = upd h n (some (.row (.l xs) 128)) ∧ n' = n + 1) := by
  simp only [fR, u95, bind_pure, fH, append, t128, hv.len, gM]
  by_cases hk : cnt = 0
  · subst hk
    rw [Nat.beq_refl]
    exact wp_pure.2 (.inl ⟨rfl, rfl, rfl, rfl⟩)
  have hk0 : cnt.beq 0 = false := jW hk
  simp only [hk0]
  refine eQ hv.cells ?_
  have r1 : ((2 * cnt * 8).ble room && cnt.ble room) = true := by
    unfold room
    rw [dC (by omega), dC (by omega)]; rfl
  have e0 : (0 + cnt).ble 0 = false := iB (by omega)
  have sc : eB 1 0 (.sl b 0 0 (some 0) 1) = (fT b).bind (cX fun c _ => (ob ((0 + 0 * 1).ble c.size)).bind fun _ => M.pure (c.sub 0 (0 * 1))) := rfl
  simp only [bR, fI, hb, Option.some.injEq, exists_eq_left', cX, gM, e0]
  refine eQ (a := []) ((Rds.sl (sz := 1) b 0 0 (some 0) (.l []) 128 [] hb rfl (by simp) (fun j hj => by simp at hj)).cells) ?_
  simp only [grown, eY, iH, wp_pure, r1, true_and, Nat.zero_add, List.nil_append, and_self, and_true]
  exact .inr (by omega)
theorem Lp.BY {h : Hp} {v : a9} {cnt : Nat} {xs : List a9} (l : Lp h v cnt xs) : binOp env .eql 95 v .aV = M.pure (.bool (lN v)) ∧ (lN v = true → v = .aV ∧ cnt = 0 ∧ xs = []) := by
  cases l with
  | nil => exact ⟨rfl, fun _ => ⟨rfl, rfl, rfl⟩⟩
  | zero id off c hh hs => exact ⟨rfl, fun q => by cases q⟩
  | sl id cnt cells xs hh h0 hl hx => exact ⟨rfl, fun q => by cases q⟩
theorem f86 (v : a9) (cnt : Nat) (xs : List a9) (h : Hp) (n : Nat) (hv : Lp h v cnt xs) (h1 : xs.all bN = true) (hc : cnt ≤ 1000000) (hf : bO h n) :
    Wp (bD env (evalW env) 86 [v]) h n fun v' h' n' => Lp h' v' cnt xs ∧ (∀ j, bB v' = some j → n ≤ j ∧ j < n') ∧ Old h h' n := by
  refine bL ff86 fi86 ?_
  obtain ⟨en, en2⟩ := hv.BY
  simp only [UD, Try.f86, Option.getD_some, List.replicate, aC, fgr, execOp, opd, ofValue, aD, put, nth, aB, ended, aT, aU, Nat.reduceSub, en, gL, gI]
  cases hnil : lN v with
  | true =>
    obtain ⟨e1, e2, e3⟩ := en2 hnil
    subst e1; subst e2; subst e3
    simp only [aC, fgr, execOp, opd, ofValue, aD, put, nth, aB, gB]
    exact ⟨.nil, (fun j q => by cases q), Old.refl _ _⟩
  | false =>
    simp only [aC, tyr, execOp, dE, und, aZ, buildSlice, fQ, fill, Nat.ble, gI]
    refine j4 iV hf (f := fun id => a9.sl id 0 0 (some 0) 1) fun H r o f => ?_
    simp only [aC, execOp, opd, bG, aD, put, nth, aL, builtin, fC]
    have hv' := hv.aX (h' := H) fun j q => o j (by have := hv.live hf q; omega)
    have hlen := hv.rds.length
    refine JH (HZ r hv'.rds h1 hc f) fun v2 h2 n2 hn2 hh => ?_
    simp only [aC, fgr, execOp, opd, aD, put, nth, aB, gB]
    rcases hh with ⟨e1, e2, e3, e4⟩ | ⟨e1, e2, e3, e4⟩
    · subst e1; subst e2; subst e3; subst e4
      have : xs = [] := List.eq_nil_of_length_eq_zero (by omega)
      subst this
      exact ⟨.zero n 0 _ r (Nat.zero_le _), (fun j q => by injection q with q; omega), fun j hj => o j (by omega)⟩
    · subst e2; subst e3; subst e4
      have hxl : xs.length = cnt := by omega
      exact ⟨.sl (n + 1) cnt xs xs (aW _ _ _) (by omega) (by omega) (List.take_of_length_le (by omega)), (fun j q => by injection q with q; omega), fun j hj => by rw [aP _ _ (by omega), o j (by omega)]⟩
theorem f41 (x : Nat) (L : List Ver) (D M : Nat → Prop) (h : Hp) (n : Nat) (hs : Ix h n D M x L) (hc : L.length ≤ 1000000) (hf : bO h n) :
    Wp (bD env (evalW env) 41 [.ptr x 0]) h n fun v' h' n' => ∃ y M', v' = .ptr y 0 ∧ Ix h' n' D M' y L ∧ (∀ j, M' j → n ≤ j) ∧ Old h h' n := by
  obtain ⟨⟨S, s0, rS, perm⟩, rL, ok⟩ := hs
  have s00 := s0
  obtain ⟨vl, vs, xl, xs, iv, mx, ml, ms, mn⟩ := s00
  refine bL ff41 fi41 ?_
  simp only [V5, Try.f41, Option.getD_some, List.replicate, aC, fgr, hkr, execOp, opd, bG, ofValue, aD, put, nth, aB, aL, aE, ended, aT, aU, Nat.reduceSub, gL, gI]
  refine eL (f73 x _ true h n iv.row rfl) ?_
  simp only [aC, fgr, hkr, execOp, opd, bG, aD, put, nth, aB, aL, aE, gL, gB]
  refine bF hf (f40 h n hf) fun v1 h1 n1 hn1 f1 ⟨y, e1, hy, i1, o1⟩ => ?_
  subst e1
  obtain ⟨⟨S1, ⟨vl1, vs1, xl1, xs1, jv, _⟩, _⟩, _⟩ := i1
  have yn := jv.xn
  obtain ⟨e0, jr⟩ := jv.row
  have row1 := iv.row.aX (o1 x iv.xn)
  have lp1 := iv.l.aX (h' := h1) fun j q => o1 j (mn j (ml j q)).1
  have ls1 := iv.s.aX (h' := h1) fun j q => o1 j (mn j (ms j q)).1
  have xn := iv.xn
  have xy : x ≠ y := by omega
  have hSl : S.length = L.length := perm.length_eq.symm
  simp only [aC, fgr, execOp, opd, aD, put, nth, aB]
  refine cG ⟨rfl, ?_⟩
  simp only [aF, aI, aC, tyr, execOp, opd, aD, put, nth, und, sizeOf, nilCheck, aZ, aS, fieldAddr, Nat.reduceAdd, gL, gI]
  rw [bP (row1.one (off := 1) rfl pZ rfl)]
  simp only [aF, hkr, execOp, opd, bG, aD, put, nth, aL, aE, Nat.reduceAdd, gL]
  have fo1 : ∀ S : Nat → Bool, bO (only S h1) n1 := fun S => f1.only
  refine wC (fun j => decide (bB vl = some j)) f1 (f86 vl L.length xl (only (fun j => decide (bB vl = some j)) h1) n1 (lp1.aX fun j q => gY (decide_eq_true q)) iv.lp.cells hc (fo1 _)) fun v2 h2 n2 r2 w2 hr2 hn2 f2 ⟨l2, i2, o2⟩ hin hout hr hw => ?_
  have vln : ∀ j, bB vl = some j → j < n ∧ j ≠ x ∧ j ≠ y := fun j q => by
    have h1 := (mn j (ml j q)).1
    exact ⟨h1, (iv.vlx j q).1, by omega⟩
  have vsn : ∀ j, bB vs = some j → j < n ∧ j ≠ x ∧ j ≠ y := fun j q => by
    have h1 := (mn j (ms j q)).1
    exact ⟨h1, (iv.vsx j q).1, by omega⟩
  have old2 : Old h1 h2 n1 := fun j hj => by
    by_cases q : bB vl = some j
    · rw [hin j (.inl (decide_eq_true q)), o2 j hj, gY (decide_eq_true q)]
    · exact hout j hj (decide_eq_false q)
  have l2' : Lp h2 v2 L.length xl := l2.aX fun j q => hin j (.inr (i2 j q).1)
  simp only [aF, aI, aC, tyr, execOp, opd, aD, put, nth, und, sizeOf, nilCheck, aZ, aS, fieldAddr, Nat.reduceAdd, gL, gI]
  rw [bP ((row1.aX (old2 x (by have := iv.xn; omega))).one (off := 3) rfl pZ rfl)]
  simp only [aF, hkr, execOp, opd, bG, aD, put, nth, aL, aE, Nat.reduceAdd, gL]
  have ls2 := ls1.aX (h' := h2) fun j q => old2 j (by have := (vsn j q).1; omega)
  have fo2 : ∀ S : Nat → Bool, bO (only S h2) n2 := fun S => f2.only
  refine wC (fun j => decide (bB vs = some j)) f2 (f86 vs S.length xs (only (fun j => decide (bB vs = some j)) h2) n2 (ls2.aX fun j q => gY (decide_eq_true q)) iv.sp.cells (by omega) (fo2 _)) fun v3 h3 n3 r3 w3 hr3 hn3 f3 ⟨l3, i3, o3⟩ hin3 hout3 hr3' hw3 => ?_
  have old3 : Old h2 h3 n2 := fun j hj => by
    by_cases q : bB vs = some j
    · rw [hin3 j (.inl (decide_eq_true q)), o3 j hj, gY (decide_eq_true q)]
    · exact hout3 j hj (decide_eq_false q)
  have l3' : Lp h3 v3 S.length xs := l3.aX fun j q => hin3 j (.inr (i3 j q).1)
  have l2'' : Lp h3 v2 L.length xl := l2'.aX fun j q => old3 j (i2 j q).2
  have jr3 : h3 y = some (.row (.l [.bool true, vl1, fo false, vs1, fo true]) e0) := by rw [old3 y (by omega), old2 y (by omega)]; exact jr
  simp only [aF, aI, aC, tyr, execOp, opd, aD, put, nth, und, sizeOf, nilCheck, aZ, aS, fieldAddr, Nat.reduceAdd, gL, gI]
  have k2 := l2.rds.kind
  have k3 := l3.rds.kind
  refine jH (Row.write (v := v2) jr3 pZ (by rw [k2.1]; rfl) (by show 1 + 1 ≤ 5; omega) (by rw [k2.1]; simp [k2.2.1])) ?_
  rw [k2.1, show cB [.bool true, vl1, fo false, vs1, fo true] 1 [v2] = [.bool true, v2, fo false, vs1, fo true] from rfl]
  simp only [aF, aI, aC, tyr, execOp, opd, aD, put, nth, und, sizeOf, nilCheck, aZ, aS, fieldAddr, Nat.reduceAdd, gL, gI]
  refine jH (Row.write (v := v3) (aW _ _ _) pZ (by rw [k3.1]; rfl) (by show 3 + 1 ≤ 5; omega) (by rw [k3.1]; simp [k3.2.1])) ?_
  rw [k3.1, show cB [.bool true, v2, fo false, vs1, fo true] 3 [v3] = [.bool true, v2, fo false, v3, fo true] from rfl]
  simp only [bY, aC, fgr, execOp, opd, aD, put, nth, aB, Nat.reduceAdd, gB]
  have nx2 : x ∉ w2 := fun q => (vln x (of_decide_eq_true (hw x q))).2.1 rfl
  have ny2 : y ∉ w2 := fun q => (vln y (of_decide_eq_true (hw y q))).2.2 rfl
  have nry2 : y ∉ r2 := fun q => (vln y (of_decide_eq_true (hr y q))).2.2 rfl
  have nx3 : x ∉ w3 := fun q => (vsn x (of_decide_eq_true (hw3 x q))).2.1 rfl
  have ny3 : y ∉ w3 := fun q => (vsn y (of_decide_eq_true (hw3 y q))).2.2 rfl
  have nry3 : y ∉ r3 := fun q => (vsn y (of_decide_eq_true (hr3' y q))).2.2 rfl
  refine ⟨(by (try simp (disch := first | assumption | omega) only [dF, List.all_cons, List.all_nil, gB, gF]); repeat' (first | rfl | exact (Bool.or_eq_true _ _).mpr (.inr rfl) | refine (Bool.and_eq_true _ _).mpr ⟨?_, ?_⟩)), ?_⟩
  obtain ⟨H4, hH4⟩ : ∃ H4, H4 = upd (upd h3 y (some (Blk.row (bQ.l [a9.bool true, v2, fo false, vs1, fo true]) e0))) y (some (Blk.row (bQ.l [a9.bool true, v2, fo false, v3, fo true]) e0)) := ⟨_, rfl⟩
  have o4 : ∀ j, j ≠ y → H4 j = h3 j := fun j hj => by rw [hH4, aP _ _ hj, aP _ _ hj]
  have r4 : Row H4 y [.bool true, v2, fo false, v3, fo true] := by rw [hH4]; exact Row.new _ _ _ _
  rw [← hH4]
  clear hH4
  have old4 : Old h H4 n := fun j hj => by rw [o4 j (by omega), old3 j (by omega), old2 j (by omega), o1 j hj]
  have hdn := iv.dn
  refine ⟨y, fun j => j = y ∨ bB v2 = some j ∨ bB v3 = some j, rfl, ⟨⟨S, ⟨v2, v3, xl, xs, ⟨r4, l2''.aX fun j q => o4 j (by have := i2 j q; omega), iv.lp.mono (fun j q => q) (fun j q => old4 j (hdn j q)), l3'.aX fun j q => o4 j (by have := i3 j q; omega), iv.sp.mono (fun j q => q) (fun j q => old4 j (hdn j q)), by omega, fun j q => by have := hdn j q; omega, fun q => by have := hdn y q; omega, fun j q => ⟨by have := i2 j q; omega, fun w => by have := hdn j w; have := i2 j q; omega⟩, fun j q => ⟨by have := i3 j q; omega, fun w => by have := hdn j w; have := i3 j q; omega, fun w => by have := i2 j w; have := i3 j q; omega⟩⟩, .inl rfl, fun j q => .inr (.inl q), fun j q => .inr (.inr q), fun j q => ?_⟩, rS, perm⟩, rL, ok⟩, fun j q => ?_, old4⟩
  · rcases q with q | q | q
    · subst q; exact ⟨by omega, fun w => by have := hdn _ w; omega⟩
    · have := i2 j q; exact ⟨by omega, fun w => by have := hdn j w; omega⟩
    · have := i3 j q; exact ⟨by omega, fun w => by have := hdn j w; omega⟩
  · rcases q with q | q | q
    · omega
    · have := i2 j q; omega
    · have := i3 j q; omega
def kpB (ls : List (List UInt8)) (j : Nat) : Bool := j == 0 || (ls.getD j [] != ls.getD (j - 1) [])
def kp (ls : List (List UInt8)) (m : Nat) : List Nat := (List.range m).filter (kpB ls)
structure Bs (h : Hp) (D : Nat → Prop) (xs : List a9) (ls : List (List UInt8)) : Prop where
  len : xs.length = ls.length
  at_ : ∀ (j : Nat) (hj : j < ls.length), ∃ x, xs[j]? = some x ∧ Bytes h x ls[j] ∧ ∀ i, bB x = some i → D i
theorem Bs.nil (h : Hp) (D : Nat → Prop) : Bs h D [] [] := ⟨rfl, fun j hj => by simp at hj⟩
theorem Bs.mono {h h' : Hp} {D D' : Nat → Prop} {xs : List a9} {ls : List (List UInt8)} (p : Bs h D xs ls) (hd : ∀ j, D j → D' j) (hk : ∀ j, D j → h' j = h j) : Bs h' D' xs ls :=
  ⟨p.len, fun j hj => by
    obtain ⟨x, e, b, d⟩ := p.at_ j hj
    exact ⟨x, e, b.aX fun i q => hk i (d i q), fun i q => hd i (d i q)⟩⟩
theorem Bs.snoc {h : Hp} {D : Nat → Prop} {xs : List a9} {ls : List (List UInt8)} (p : Bs h D xs ls) {x : a9} {l : List UInt8} (hb : Bytes h x l) (hd : ∀ i, bB x = some i → D i) : Bs h D (xs ++ [x]) (ls ++ [l]) := by
  refine ⟨by simp [p.len], fun j hj => ?_⟩
  by_cases c : j < ls.length
  · obtain ⟨y, e, b, d⟩ := p.at_ j c
    refine ⟨y, ?_, ?_, d⟩
    · rw [List.getElem?_append_left (by rw [p.len]; exact c), e]
    · rw [List.getElem_append_left c]; exact b
  · have e : j = ls.length := by simp at hj; omega
    subst e
    refine ⟨x, ?_, ?_, hd⟩
    · rw [← p.len]; simp
    · simpa using hb
theorem Bs.kind {h : Hp} {D : Nat → Prop} {xs : List a9} {ls : List (List UInt8)} (p : Bs h D xs ls) : xs.all bN = true := MT fun j x hx => by
  have hj := (List.getElem?_eq_some_iff.1 hx).1
  obtain ⟨y, e, b, _⟩ := p.at_ j (by rw [← p.len]; exact hj)
  rw [hx] at e
  injection e with e
  rw [e]; exact b.kind.2.1
def BL (h : Hp) (n0 n : Nat) (v : a9) (ls : List (List UInt8)) : Prop := ∃ xs, Lst h 29 1 v ls.length xs ∧ Bs h (fun j => n0 ≤ j ∧ j < n ∧ bB v ≠ some j) xs ls ∧ ∀ j, bB v = some j → n0 ≤ j ∧ j < n
theorem BL.aX {h h' : Hp} {a b : Nat} {v : a9} {ls : List (List UInt8)} (l : BL h a b v ls) (hk : ∀ j, a ≤ j → j < b → h' j = h j) : BL h' a b v ls := by
  obtain ⟨cells, c1, c2, c3⟩ := l
  exact ⟨cells, c1.aX fun j q => hk j (c3 j q).1 (c3 j q).2, c2.mono (fun j q => q) (fun j q => hk j q.1 q.2.1), c3⟩
theorem BL.old {h h' : Hp} {a b n : Nat} {v : a9} {ls : List (List UInt8)} (l : BL h a b v ls) (hn : b ≤ n) (hk : Old h h' n) : BL h' a b v ls := l.aX fun j _ q => hk j (by omega)
theorem BL.len {h : Hp} {a b : Nat} {v : a9} {ls : List (List UInt8)} (l : BL h a b v ls) {u : TypeId} {ts : List TypeId} (hu : und env u = M.pure (.slice 29)) : cY env (u :: ts) v = M.pure (.int .i64 (ls.length : Nat)) := by
  obtain ⟨cells, c1, c2, c3⟩ := l
  exact c1.rds.cY hu
theorem u81 : und env 81 = M.pure (.slice 29) := rfl
theorem z29 : sizeOf env 29 = M.pure 1 := rfl
theorem BL.idx {h : Hp} {a b : Nat} {v : a9} {ls : List (List UInt8)} (l : BL h a b v ls) {i : Nat} (hi : i < ls.length) {h' : Hp} {n' : Nat} : Rd (indexAddr env 81 v (.int .i64 ((i : Nat) : Int))) h' n' [] (addrOf (i * 1) v) := by
  obtain ⟨cells, c1, c2, c3⟩ := l
  exact c1.rds.idx u81 z29 rfl hi
theorem BL.at_ {h : Hp} {a b : Nat} {v : a9} {ls : List (List UInt8)} (l : BL h a b v ls) {i : Nat} (hi : i < ls.length) : ∃ x, (∀ n, Rd (load env 29 (addrOf (i * 1) v)) h n (rid v) x) ∧ Bytes h x ls[i] ∧ ∀ j, bB x = some j → a ≤ j ∧ j < b := by
  obtain ⟨cells, c1, c2, c3⟩ := l
  obtain ⟨x, e, b, d⟩ := c2.at_ i hi
  exact ⟨x, fun n => c1.rds.load uC rfl (by rw [Nat.mul_one]; exact e), b, fun j q => ⟨(d j q).1, (d j q).2.1⟩⟩
def total (L : List Ver) (z : Int) (ds : List (List UInt8)) : Nat := (ds.map fun d => (ofV L d z).length).sum
theorem PD {L : List Ver} {z : Int} {v : Ver} (hv : v ∈ L) (ht : there v z = true) : (atV L v.hash v.pn z).isSome = true := by
  unfold atV
  cases e : (L.filter fun w => same v.hash v.pn w && there w z).getLast? with
  | some a => rfl
  | none =>
    rw [List.getLast?_eq_none_iff] at e
    have : v ∈ L.filter fun w => same v.hash v.pn w && there w z := List.mem_filter.2 ⟨hv, by simp [ht, same]⟩
    rw [e] at this
    cases this
noncomputable def L49 (tm : List a9) : kI := { state := .ready, pending := none, fn := 49, tmps := tm, params := [10], assign := J0, body := IV }
def mQ (L : List Ver) (p k : Nat) : List Ver := (L.take k).drop p
theorem JE (L : List Ver) (p : Nat) : mQ L p p = [] := by
  unfold mQ
  exact List.drop_eq_nil_of_le (by rw [List.length_take]; omega)
theorem JD {L : List Ver} {p k : Nat} (hp : p ≤ k) (hk : k < L.length) : mQ L p (k + 1) = mQ L p k ++ [L[k]] := by
  unfold mQ
  rw [jO hk, List.drop_append_of_le_length (by rw [List.length_take]; omega)]
end Go.Am.Ytlgebaofkolkoaa
