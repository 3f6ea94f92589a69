/- What the statement reaches, gone through; and the abstract machine that goes through it. -/
import Derived.Test.YtlgebaofkolkoaaGC
set_option linter.unusedSimpArgs false
set_option linter.unusedVariables false
set_option linter.defProp false
set_option maxRecDepth 10000
namespace Go.Am.Ytlgebaofkolkoaa
open Go Go.Am Go.Proofs
theorem f122 (h : Hp) (n : Nat) (x : Int) : Wp (bO env (aX env) 122 [.int .i64 x]) h n fun v' h' n' => v' = .bool false ∧ h' = h ∧ n' = n := by
  refine bG VH UH ?_
  simp only [J2, Try.f122, Option.getD_some, List.replicate, fgr, bor, Nat.reduceSub, gE]
def W4 (h : Hp) (n : Nat) (x : Int) := tM (f122 h n x)
theorem f124 (h : Hp) (n : Nat) (x : Int) : Wp (bO env (aX env) 124 [.int .u32 x]) h n fun v' h' n' => v' = .bool false ∧ h' = h ∧ n' = n := by
  refine bG VG UG ?_
  simp only [J1, Try.f124, Option.getD_some, List.replicate, fgr, bor, Nat.reduceSub, gE]
def W3 (h : Hp) (n : Nat) (x : Int) := tM (f124 h n x)
theorem f118 (h : Hp) (n : Nat) (x y : Int) : Wp (bO env (aX env) 118 [.int .i64 x, .int .i64 y]) h n fun v' h' n' => v' = .int .i64 (jR x y) ∧ h' = h ∧ n' = n := by
  refine bG VJ UJ ?_
  by_cases h1 : x < y
  · simp only [E6, Try.f118, Option.getD_some, List.replicate, fgr, hkr, bor, Nat.reduceAdd, Nat.reduceSub, ↓reduceIte, Int.reduceNeg, W4, jR, h1, gE]
  · by_cases h2 : y < x <;> simp only [E6, Try.f118, Option.getD_some, List.replicate, fgr, hkr, bor, Nat.reduceAdd, Nat.reduceSub, ↓reduceIte, Int.reduceNeg, gt_iff_lt, W4, jR, h1, h2, gE]
theorem f121 (h : Hp) (n : Nat) (x y : Int) : Wp (bO env (aX env) 121 [.int .u32 x, .int .u32 y]) h n fun v' h' n' => v' = .int .i64 (jR x y) ∧ h' = h ∧ n' = n := by
  refine bG VI UI ?_
  by_cases h1 : x < y
  · simp only [E5, Try.f121, Option.getD_some, List.replicate, fgr, hkr, bor, Nat.reduceAdd, Nat.reduceSub, ↓reduceIte, Int.reduceNeg, W3, jR, h1, gE]
  · by_cases h2 : y < x <;> simp only [E5, Try.f121, Option.getD_some, List.replicate, fgr, hkr, bor, Nat.reduceAdd, Nat.reduceSub, ↓reduceIte, Int.reduceNeg, gt_iff_lt, W3, jR, h1, h2, gE]
theorem SN : und env 147 = M.pure (.slice 3) := rfl
theorem z3 : sizeOf env 3 = M.pure 1 := rfl
theorem f63 (id : Nat) (a b : Int) (e : TypeId) (h : Hp) (n : Nat) (hr : h id = some (.row (.l [.int .i64 a, .int .i64 b]) e)) : Wp (bO env (aX env) 63 [.sl id 0 2 (some 2) 1]) h n fun v' h' n' => v' = .int .i64 (orI a b) ∧ h' = h ∧ n' = n := by
  refine bG ah4 Z8 ?_
  have hs : Rds h 1 (.sl id 0 2 (some 2) 1) 2 [.int .i64 a, .int .i64 b] := mL hr rfl
  have i0 := hs.idx (E := env) SN z3 (kk := .i64) (z := 0) (j := 0) rfl (by omega) (h' := h) (n' := n)
  have i1 := hs.idx (E := env) SN z3 (kk := .i64) (z := 1) (j := 1) rfl (by omega) (h' := h) (n' := n)
  have l0 := hs.load (E := env) ti3 rfl (k := 0 * 1) (n := n) rfl
  have l1 := hs.load (E := env) ti3 rfl (k := 1 * 1) (n := n) rfl
  have w1 : IntKind.i64.wrap 1 = 1 := by decide
  have w2 : IntKind.i64.wrap 2 = 2 := by decide
  by_cases ha : a = 0
  · subst ha
    by_cases hb : b = 0
    · subst hb
      simp only [J0, Try.f63, Option.getD_some, List.replicate, fgr, builtin, blr, bor, bR, Nat.reduceSub, Int.cast_ofNat_Int, ↓reduceIte, Int.reduceLT, Int.reduceAdd, bP, aF i0, aF i1, aF l0, aF l1, orI, w1, w2, gE]
    · simp only [J0, Try.f63, Option.getD_some, List.replicate, fgr, builtin, blr, bor, bR, Nat.reduceSub, Int.cast_ofNat_Int, ↓reduceIte, Int.reduceLT, Int.reduceAdd, bP, aF i0, aF i1, aF l0, aF l1, orI, w1, hb, gE]
  · simp only [J0, Try.f63, Option.getD_some, List.replicate, fgr, builtin, blr, bor, Nat.reduceSub, Int.cast_ofNat_Int, ↓reduceIte, Int.reduceLT, bP, aF i0, aF l0, orI, ha, gE]
structure Ver where
  aG : List UInt8
  pn : Int
  made : Int
  value : Int
  aE : List UInt8
  dN : Bool
  bW : Int
  by_ : List UInt8
def aQ (aG : List UInt8) (pn : Int) : List aA := aG.map u8 ++ [.int .u32 pn]
def nK (v : Ver) (sv : aA) : List aA := [.int .i64 v.made, .int .i64 v.value, sv, .bool v.dN, .int .i64 v.bW] ++ v.by_.map u8
def aH (v : Ver) (sv : aA) : List aA := aQ v.aG v.pn ++ nK v sv
theorem c9 {aG : List UInt8} {pn : Int} (h : aG.length = 32) : (aQ aG pn).length = 33 := by simp [aQ, h]
theorem iV {aG : List UInt8} {pn : Int} (h : aG.length = 32) : (aQ aG pn)[32]? = some (.int .u32 pn) := by
  unfold aQ
  rw [List.getElem?_append_right (by rw [List.length_map]; omega), List.length_map, h]; rfl
theorem C6 (aG : List UInt8) (pn : Int) : (aQ aG pn).all bK = true := by
  unfold aQ
  rw [List.all_append, pS]; rfl
theorem aW {v : Ver} {sv : aA} (h : v.aG.length = 32) (h2 : v.by_.length = 32) : (aH v sv).length = 70 := by
  unfold aH
  rw [List.length_append, c9 h]
  simp [nK, h2]
theorem uA {v : Ver} {sv : aA} (h : v.aG.length = 32) : (aH v sv).take 33 = aQ v.aG v.pn := by
  unfold aH
  rw [List.take_append_of_le_length (by rw [c9 h]; omega), List.take_of_length_le (by rw [c9 h]; omega)]
theorem fT {v : Ver} {sv : aA} (h : v.aG.length = 32) (k : Nat) : (aH v sv)[33 + k]? = (nK v sv)[k]? := by
  unfold aH
  rw [List.getElem?_append_right (by rw [c9 h]; omega), c9 h]
  congr 1; omega
def lK (h1 : List UInt8) (n1 : Int) (h2 : List UInt8) (n2 : Int) : Int := orI (Lib.compareBytes h1 h2) (jR n1 n2)
def cV (v w : Ver) : Int := orI (lK v.aG v.pn w.aG w.pn) (jR v.made w.made)
def DB (v w : Ver) : Int := orI (Lib.compareBytes v.aE w.aE) (cV v w)
theorem u25 : und env 25 = M.pure (.array 32 5) := rfl
theorem z5 : sizeOf env 5 = M.pure 1 := rfl
theorem KJ {id : Nat} {h' : Hp} {n' : Nat} : Rd (slice env 25 (.ptr id 0) none none none) h' n' [] (.sl id 0 32 (some 32) 1) := by
  simp only [slice, u25, z5, aI, cX, Nat.zero_mul, Nat.add_zero, Nat.sub_zero]
  exact Rd.pure _
theorem uV {h : Hp} {id : Nat} {xs : List aA} {l : List UInt8} (hr : Row h id xs) (hl : l.length = 32) (ht : xs.take 32 = l.map u8) (hx : 32 ≤ xs.length) : Bytes h (.sl id 0 32 (some 32) 1) l := by
  obtain ⟨e, he⟩ := hr
  have := Bytes.sl (h := h) id 0 (some 32) (.l xs) e l he (by show 0 + l.length ≤ xs.length; omega) (fun j hj => by
    have hj2 : j < xs.length := by omega
    rw [Nat.zero_add, bH.vW hj2]
    have h1 : (xs.take 32)[j]? = (l.map u8)[j]? := by rw [ht]
    rw [List.getElem?_take, if_pos (by omega), List.getElem?_eq_getElem hj2, List.getElem?_map, List.getElem?_eq_getElem hj] at h1
    injection h1)
  rwa [hl] at this
theorem f117 (h1 h2 : List UInt8) (n1 n2 : Int) (l1 : h1.length = 32) (l2 : h2.length = 32) (h : Hp) (n : Nat) (hf : bI h n) :
    Wp (bO env (aX env) 117 [.agg (aQ h1 n1), .agg (aQ h2 n2)]) h n fun v' h' n' => v' = .int .i64 (lK h1 n1 h2 n2) ∧ Old h h' n := by
  refine bG VK UK ?_
  simp only [J3, Try.f117, Option.getD_some, List.replicate, Nat.reduceAdd, Nat.reduceSub, gE]
  refine cL (v := .agg (aQ h1 n1)) gQ rfl hf fun H1 r1 o1 f1 => ?_
  simp only [gE]
  refine cL (v := .agg (aQ h2 n2)) gQ rfl f1 fun H2 r2 o2 f2 => ?_
  simp only [fgr, gE]
  have r1' : Row H2 n (aQ h1 n1) := r1.aO (o2 n (by omega))
  have r2' : Row H2 (n + 1) (aQ h2 n2) := r2
  have b1 := uV r1' l1 (by unfold aQ; rw [List.take_append_of_le_length (by simp [l1]), List.take_of_length_le (by simp [l1])]) (by rw [c9 l1]; omega)
  have b2 := uV r2' l2 (by unfold aQ; rw [List.take_append_of_le_length (by simp [l2]), List.take_of_length_le (by simp [l2])]) (by rw [c9 l2]; omega)
  refine bY ⟨rfl, ?_⟩
  simp only [tyr, opt, aM, gE]
  rw [aR KJ]
  simp only [tyr, opt, aM, Nat.reduceAdd, gE]
  rw [aR KJ]
  simp only [hkr, Nat.reduceAdd, gE]
  rw [aR (vG b1 b2)]
  simp only [tyr, aM, Nat.reduceAdd, gE]
  rw [aR (r1'.one (iV l1) pU rfl)]
  simp only [tyr, aM, Nat.reduceAdd, gE]
  rw [aR (r2'.one (iV l2) pU rfl)]
  simp only [hkr, Nat.reduceAdd, gE]
  refine rJ f2 (f121 (fun _ => none) _ n1 n2) (f121 H2 _ n1 n2) fun v3 h3 n3 hn3 f3 ⟨e1, e2, e3⟩ => ?_
  subst e1; subst e2; subst e3
  simp only [tyr, cel, Nat.reduceAdd, Nat.beq, buildSlice, gI, fill, List.take_succ_cons, List.take_zero, List.drop_succ_cons, List.drop_zero, Nat.ble, Nat.one_mul, gE]
  refine lE ti3 f3 fun H4 r4 o4 f4 => ?_
  simp only [hkr, Nat.reduceAdd, gE]
  refine cK f4 (f63 _ _ _ _ _ _ r4) fun v5 h5 n5 r5 w5 hn5 f5 ⟨e1, e2, e3⟩ => ?_
  subst e1; subst e2; subst e3
  simp only [fgr, Nat.reduceAdd, gE]
  refine ⟨(by (try simp (disch := first | assumption | omega) only [dX, gF]); repeat' (first | rfl | exact (Bool.or_eq_true _ _).mpr (.inr rfl) | refine (Bool.and_eq_true _ _).mpr ⟨?_, ?_⟩)), ?_⟩
  exact ⟨rfl, fun j hj => by rw [o4 j (by omega), o2 j (by omega), o1 j (by omega)]⟩
structure Ver.Ok (v : Ver) : Prop where
  h : v.aG.length = 32
  b : v.by_.length = 32
theorem fL {h : Hp} {n id : Nat} {v : Ver} {sv : aA} (hr : Row h id (aH v sv)) (ho : v.Ok) : Rd (load env 28 (.ptr id 0)) h n [id] (.agg (aQ v.aG v.pn)) := by
  have := hr.agg (E := env) (n := n) (off := 0) gQ rfl (by rw [aW ho.h ho.b]; decide)
  rw [List.drop_zero] at this
  have e : (aH v sv).take 33 = aQ v.aG v.pn := uA ho.h
  exact e ▸ this
theorem dY {h : Hp} {n id : Nat} {v : Ver} {sv : aA} (hr : Row h id (aH v sv)) (ho : v.Ok) : Rd (load env 31 (.ptr id 0)) h n [id] (.agg (aH v sv)) := hr.j9 dZ rfl (aW ho.h ho.b)
theorem cO {h : Hp} {n id : Nat} {v : Ver} {sv : aA} (hr : Row h id (aH v sv)) (ho : v.Ok) : Rd (load env 3 (.ptr id 33)) h n [id] (.int .i64 v.made) := hr.one (fT ho.h 0) ti3 rfl
theorem wY {h : Hp} {n id : Nat} {v : Ver} {sv : aA} (hr : Row h id (aH v sv)) (ho : v.Ok) : Rd (load env 2 (.ptr id 34)) h n [id] (.int .i64 v.value) := hr.one (fT ho.h 1) ti2 rfl
theorem eZ {h : Hp} {n id : Nat} {v : Ver} {sv : aA} (hr : Row h id (aH v sv)) (ho : v.Ok) : Rd (load env 29 (.ptr id 35)) h n [id] sv := hr.one (fT ho.h 2) jJ rfl
theorem A8 {h : Hp} {n id : Nat} {v : Ver} {sv : aA} (hr : Row h id (aH v sv)) (ho : v.Ok) : Rd (load env 4 (.ptr id 36)) h n [id] (.bool v.dN) := hr.one (fT ho.h 3) ti4 rfl
theorem dK {h : Hp} {n id : Nat} {v : Ver} {sv : aA} (hr : Row h id (aH v sv)) (ho : v.Ok) : Rd (load env 3 (.ptr id 37)) h n [id] (.int .i64 v.bW) := hr.one (fT ho.h 4) ti3 rfl
theorem yF {h : Hp} {n id : Nat} {v : Ver} {sv : aA} (hr : Row h id (aH v sv)) (ho : v.Ok) : Rd (load env 25 (.ptr id 38)) h n [id] (.agg (v.by_.map u8)) := by
  have := hr.agg (E := env) (n := n) (off := 38) nH rfl (by rw [aW ho.h ho.b]; decide)
  have e : ((aH v sv).drop 38).take 32 = v.by_.map u8 := by
    unfold aH
    rw [List.drop_append, List.drop_eq_nil_of_le (by rw [c9 ho.h]; omega), c9 ho.h]
    show (([] : List aA) ++ v.by_.map u8).take 32 = _
    rw [List.nil_append, List.take_of_length_le (by simp [ho.b])]
  exact e ▸ this
theorem f107 (v w : Ver) (sv sw : aA) (ov : v.Ok) (ow : w.Ok) (h : Hp) (n : Nat) (hf : bI h n) :
    Wp (bO env (aX env) 107 [.agg (aH v sv), .agg (aH w sw)]) h n fun v' h' n' => v' = .int .i64 (cV v w) ∧ Old h h' n := by
  refine bG VR UQ ?_
  simp only [J9, Try.f107, Option.getD_some, List.replicate, Nat.reduceAdd, Nat.reduceSub, gE]
  refine cL (v := .agg (aH v sv)) dZ rfl hf fun H1 r1 o1 f1 => ?_
  simp only [gE]
  refine cL (v := .agg (aH w sw)) dZ rfl f1 fun H2 r2 o2 f2 => ?_
  simp only [fgr, gE]
  have r1' : Row H2 n (aH v sv) := r1.aO (o2 n (by omega))
  have r2' : Row H2 (n + 1) (aH w sw) := r2
  refine bY ⟨rfl, ?_⟩
  simp only [tyr, aM, gE]
  rw [aR (fL r1' ov)]
  simp only [tyr, aM, Nat.reduceAdd, gE]
  rw [aR (fL r2' ow)]
  simp only [hkr, Nat.reduceAdd, gE]
  refine rJ f2 (f117 v.aG w.aG v.pn w.pn ov.h ow.h (fun _ => none) _ (fun _ _ => rfl)) (f117 v.aG w.aG v.pn w.pn ov.h ow.h H2 _ f2) fun v3 h3 n3 hn3 f3 ⟨e3, o3⟩ => ?_
  subst e3
  simp only [tyr, aM, Nat.reduceAdd, gE]
  have r1' := r1'.aO (o3 n (by omega))
  have r2' := r2'.aO (o3 (n + 1) (by omega))
  rw [aR (cO r1' ov)]
  simp only [tyr, aM, Nat.reduceAdd, gE]
  rw [aR (cO r2' ow)]
  simp only [hkr, Nat.reduceAdd, gE]
  refine rJ f3 (f118 (fun _ => none) _ v.made w.made) (f118 h3 _ v.made w.made) fun v3 h3 n3 hn3 f3 ⟨e1, e2, e3⟩ => ?_
  subst e1; subst e2; subst e3
  simp only [tyr, cel, Nat.reduceAdd, Nat.beq, buildSlice, gI, fill, List.take_succ_cons, List.take_zero, List.drop_succ_cons, List.drop_zero, Nat.ble, Nat.one_mul, gE]
  refine lE ti3 f3 fun H4 r4 o4 f4 => ?_
  simp only [hkr, Nat.reduceAdd, gE]
  refine cK f4 (f63 _ _ _ _ _ _ r4) fun v5 h5 n5 r5 w5 hn5 f5 ⟨e1, e2, e3⟩ => ?_
  subst e1; subst e2; subst e3
  simp only [fgr, Nat.reduceAdd, gE]
  refine ⟨(by (try simp (disch := first | assumption | omega) only [dX, gF]); repeat' (first | rfl | exact (Bool.or_eq_true _ _).mpr (.inr rfl) | refine (Bool.and_eq_true _ _).mpr ⟨?_, ?_⟩)), ?_⟩
  exact ⟨rfl, fun j hj => by rw [o4 j (by omega), o3 j (by omega), o2 j (by omega), o1 j (by omega)]⟩
theorem t29 : und env 29 = M.pure (.slice 5) := rfl
theorem t9 : und env 9 = M.pure .string := rfl
theorem t5 : und env 5 = M.pure (.int .u8) := rfl
theorem s5 : sizeOf env 5 = M.pure 1 := rfl
structure At (h : Hp) (id : Nat) (sv : aA) (v : Ver) : Prop where
  row : Row h id (aH v sv)
  s : Bytes h sv v.aE
  ok : v.Ok
theorem At.aO {h h' : Hp} {id : Nat} {sv : aA} {v : Ver} (a : At h id sv v) (hi : h' id = h id) (hs : ∀ j, aL sv = some j → h' j = h j) : At h' id sv v := ⟨a.row.aO hi, a.s.aO hs, a.ok⟩
structure AtN (h : Hp) (n : Nat) (id : Nat) (sv : aA) (v : Ver) : Prop extends At h id sv v where
  idn : id < n
  sn : ∀ j, aL sv = some j → j < n
theorem AtN.old {h h' : Hp} {n n' : Nat} {id : Nat} {sv : aA} {v : Ver} (a : AtN h n id sv v) (hn : n ≤ n') (ho : Old h h' n) : AtN h' n' id sv v :=
  ⟨a.toAt.aO (ho id a.idn) (fun j hj => ho j (a.sn j hj)), by have := a.idn; omega, fun j hj => by have := a.sn j hj; omega⟩
theorem f84 (a b : Nat) (sa sb : aA) (v w : Ver) (h : Hp) (n : Nat) (ha : AtN h n a sa v) (hb : AtN h n b sb w) (hf : bI h n) :
    Wp (bO env (aX env) 84 [.ptr a 0, .ptr b 0]) h n fun v' h' n' => v' = .int .i64 (cV v w) ∧ Old h h' n := by
  refine bG ag2 YW ?_
  simp only [QM, Try.f84, Option.getD_some, List.replicate, fgr, Nat.reduceAdd, Nat.reduceSub, gE]
  refine bY ⟨rfl, ?_⟩
  simp only [Nat.reduceAdd, gE]
  rw [aR (dY ha.row ha.ok)]
  simp only [Nat.reduceAdd, gE]
  rw [aR (dY hb.row hb.ok)]
  simp only [hkr, Nat.reduceAdd, gE]
  refine cK hf (f107 v w sa sb ha.ok hb.ok h n hf) fun v5 h5 n5 r5 w5 hn5 f5 ⟨e1, o1⟩ => ?_
  subst e1
  simp only [fgr, Nat.reduceAdd, gE]
  refine ⟨(by (try simp (disch := first | assumption | omega) only [dX, gF]); repeat' (first | rfl | exact (Bool.or_eq_true _ _).mpr (.inr rfl) | refine (Bool.and_eq_true _ _).mpr ⟨?_, ?_⟩)), ?_⟩
  exact o1
theorem f85 (a b : Nat) (sa sb : aA) (v w : Ver) (h : Hp) (n : Nat) (ha : AtN h n a sa v) (hb : AtN h n b sb w) (hf : bI h n) :
    Wp (bO env (aX env) 85 [.ptr a 0, .ptr b 0]) h n fun v' h' n' => v' = .int .i64 (DB v w) ∧ Old h h' n := by
  refine bG ag1 YV ?_
  simp only [QL, Try.f85, Option.getD_some, List.replicate, fgr, Nat.reduceAdd, Nat.reduceSub, gE]
  refine bY ⟨rfl, ?_⟩
  simp only [tyr, aM, Nat.reduceAdd, gE]
  rw [aR (eZ ha.row ha.ok)]
  simp only [tyr, aM, Nat.reduceAdd, gE]
  rw [aR (eZ hb.row hb.ok)]
  simp only [hkr, Nat.reduceAdd, gE]
  rw [aR (vG ha.s hb.s)]
  simp only [hkr, Nat.reduceAdd, gE]
  refine cK hf (f84 a b sa sb v w h n ha hb hf) fun v5 h5 n5 r5 w5 hn5 f5 ⟨e1, o1⟩ => ?_
  subst e1
  simp only [tyr, cel, Nat.reduceAdd, Nat.beq, buildSlice, gI, fill, List.take_succ_cons, List.take_zero, List.drop_succ_cons, List.drop_zero, Nat.ble, Nat.one_mul, gE]
  refine lE ti3 f5 fun H4 r4 o4 f4 => ?_
  simp only [hkr, Nat.reduceAdd, gE]
  refine cK f4 (f63 _ _ _ _ _ _ r4) fun v6 h6 n6 r6 w6 hn6 f6 ⟨e1, e2, e3⟩ => ?_
  subst e1; subst e2; subst e3
  simp only [fgr, Nat.reduceAdd, gE]
  refine ⟨(by (try simp (disch := first | assumption | omega) only [dX, gF]); repeat' (first | rfl | exact (Bool.or_eq_true _ _).mpr (.inr rfl) | refine (Bool.and_eq_true _ _).mpr ⟨?_, ?_⟩)), ?_⟩
  exact ⟨rfl, fun j hj => by rw [o4 j (by omega), o1 j hj]⟩
def dC (v : Ver) (z : Int) : Bool := decide (v.made ≤ z) && (decide (v.bW = 0) || decide (z < v.bW))
theorem f82 (v : Ver) (sv : aA) (ov : v.Ok) (z : Int) (h : Hp) (n : Nat) (hf : bI h n) :
    Wp (bO env (aX env) 82 [.agg (aH v sv), .int .i64 z]) h n fun v' h' n' => v' = .bool (dC v z) ∧ Old h h' n := by
  refine bG ag4 YY ?_
  simp only [QO, Try.f82, Option.getD_some, List.replicate, Nat.reduceAdd, Nat.reduceSub, gE]
  refine cL (v := .agg (aH v sv)) dZ rfl hf fun H1 r1 o1 f1 => ?_
  simp only [tyr, fgr, bor, aM, aF (cO r1 ov), gE]
  by_cases c1 : v.made ≤ z
  · by_cases c2 : v.bW = 0
    · simp only [tyr, fgr, bor, aY, aM, aF (dK r1 ov), c1, c2, gE]
      exact ⟨by simp [dC, c1, c2], fun j hj => o1 j (by omega)⟩
    · by_cases c3 : z < v.bW
      · simp only [tyr, fgr, bor, aY, aM, gt_iff_lt, aF (dK r1 ov), c1, c2, c3, gE]
        exact ⟨by simp [dC, c1, c2, c3], fun j hj => o1 j (by omega)⟩
      · simp only [tyr, fgr, bor, aY, aM, gt_iff_lt, aF (dK r1 ov), c1, c2, c3, gE]
        exact ⟨by simp [dC, c1, c2, c3], fun j hj => o1 j (by omega)⟩
  · simp only [fgr, aY, c1, gE]
    exact ⟨by simp [dC, c1], fun j hj => o1 j (by omega)⟩
def nW : aA → Bool
  | .isl _ _ _ _ => false
  | _ => true
theorem Lst.nW {h : Hp} {e : TypeId} {sz cnt : Nat} {v : aA} {xs : List aA} (l : Lst h e sz v cnt xs) : nW v = true := by cases l <;> rfl
theorem VV (v : aA) (l : List UInt8) (h : Hp) (n : Nat) (hb : Bytes h v l) (hl : l.length ≤ 1000000) (hf : bI h n) : Wp (bO env (aX env) 90 [v]) h n fun v' h' n' => Bytes h' v' l ∧ (∀ j, aL v' = some j → n ≤ j ∧ j < n') ∧ Old h h' n ∧ nW v' = true := by
  refine bG af6 YQ ?_
  simp only [QG, Try.f90, Option.getD_some, List.replicate, fgr, Nat.reduceSub, hb.JF t29, gE]
  cases hnil : oB v with
  | true =>
    simp only [fgr, gE]
    have := hb.nil.2 hnil
    subst this
    exact ⟨.aT, (fun j hj => by cases hj), Old.refl _ _, rfl⟩
  | false =>
    simp only [tyr, builtin, newRow, buildSlice, gI, fill, Nat.ble, gE]
    refine fV (i := ⟨.int .u8, 1, 1, .int .u8 0⟩) (e := 5) (cnt := 0) (xs := []) (yU (bE _ _ _) rfl (fun k hk => by injection hk with hk; exact hk.symm)) ((hb.aO fun j hj => ?_).rds) t29 t29 ti5 (pS l) (by decide) (by show 2 * (0 + l.length) * 1 ≤ _; omega) (by omega) hf.new ?_
    · rw [aP]
      intro e
      cases hb with
      | aT => cases hj
      | isl => cases hj
      | sl id off cap c e2 l hh hs hc => injection hj with hj; subst hj; subst e; rw [hf _ (Nat.le_refl _)] at hh; cases hh
    · intro v' h' n' hn hf' ho hid hold
      simp only [fgr, gE]
      rw [List.nil_append] at ho
      refine ⟨ho.rds.bytes (by intro e; subst e; cases ho), fun j hj => ?_, fun j hj => ?_, Lst.nW ho⟩
      · rcases hid with q | ⟨q, q2⟩
        · rw [q] at hj; injection hj with hj; subst hj; exact ⟨Nat.le_refl _, by omega⟩
        · rw [q] at hj; injection hj with hj; omega
      · rw [hold j (by omega) (fun e => by injection e with e; omega), aP _ _ (by omega)]
theorem f90 (v : aA) (l : List UInt8) (h : Hp) (n : Nat) (hb : Bytes h v l) (hl : l.length ≤ 1000000) (hf : bI h n) : Wp (bO env (aX env) 90 [v]) h n fun v' h' n' => Bytes h' v' l ∧ (∀ j, aL v' = some j → n ≤ j ∧ j < n') ∧ Old h h' n :=
  cG (VV v l h n hb hl hf) fun v' h' n' q => ⟨q.1, q.2.1, q.2.2.1⟩
theorem dH {v : Ver} {sv : aA} (h1 : bK sv = true) : (aH v sv).all bK = true := by
  unfold aH nK
  rw [List.all_append, C6, List.all_append, pS]
  simp only [List.all_cons, List.all_nil, h1, Bool.and_true]
  rfl
theorem sC {v : Ver} {sv s' : aA} (h : v.aG.length = 32) : bV (aH v sv) 35 [s'] = aH v s' := by
  unfold bV aH
  have hl := c9 (pn := v.pn) h
  rw [List.take_append, List.drop_append, hl, List.take_of_length_le (by rw [hl]; omega), List.drop_eq_nil_of_le (by rw [hl]; simp)]
  simp only [List.length_singleton, nK, List.append_assoc]
  rfl
theorem JE (v : Ver) (sv : aA) (ov : v.Ok) (h : Hp) (n : Nat) (hs : Bytes h sv v.aE) (hsn : ∀ j, aL sv = some j → j < n) (hl : v.aE.length ≤ 1000000) (hf : bI h n) :
    Wp (bO env (aX env) 77 [.agg (aH v sv)]) h n fun v' h' n' => ∃ s', v' = .agg (aH v s') ∧ Bytes h' s' v.aE ∧ (∀ j, aL s' = some j → n ≤ j ∧ j < n') ∧ Old h h' n ∧ nW s' = true := by
  refine bG ag9 Z3 ?_
  simp only [QT, Try.f77, Option.getD_some, List.replicate, Nat.reduceSub, gE]
  refine cL (v := .agg (aH v sv)) dZ rfl hf fun H1 r1 o1 f1 => ?_
  simp only [gE]
  rw [fI dZ rfl]
  obtain ⟨H2, hH2⟩ : ∃ H2, H2 = upd H1 (n + 1) (some (Blk.row (bH.l fA.i.zero.cells) 31)) := ⟨_, rfl⟩
  have f2 : bI H2 (n + 1 + 1) := by rw [hH2]; exact f1.new
  have o2 : ∀ j, j ≠ n + 1 → H2 j = H1 j := fun j hj => by rw [hH2, aP _ _ hj]
  have r2 : H2 (n + 1) = some (Blk.row (bH.l fA.i.zero.cells) 31) := by rw [hH2, bE]
  show Ops env 77 none _ _ _ _ _ (upd H1 (n + 1) (some (Blk.row (bH.l fA.i.zero.cells) 31))) _
  rw [← hH2]
  clear hH2
  have r1 := r1.aO (o2 n (by omega))
  have old2 : Old h H2 n := fun j hj => by rw [o2 j (by omega), o1 j (by omega)]
  simp only [tyr, fgr, aM, gE]
  rw [aF (eZ r1 ov)]
  simp only [hkr, gE]
  refine bD f2 (VV sv v.aE H2 _ (hs.aO fun j hj => old2 j (hsn j hj)) hl f2) fun s' H3 n3 hn3 f3 ⟨b3, i3, o3, m3⟩ => ?_
  simp only [tyr, aM, gE]
  obtain ⟨e1, he1⟩ := r1.aO (o3 n (by omega))
  rw [eQ (Row.fH he1 jJ (by rw [b3.kind.1]; rfl) (by show 35 + 1 ≤ (aH v sv).length; rw [aW ov.h ov.b]; decide) (by rw [b3.kind.1]; simp [b3.kind.2.1]))]
  rw [b3.kind.1, show bV (aA.agg (aH v sv)).cells 35 [s'] = aH v s' from sC ov.h]
  simp only [fgr, gE]
  have f4 : bI (upd H3 n (some (Blk.row (bH.l (aH v s')) e1))) n3 := f3.upd (by omega)
  have r4 : Row (upd H3 n (some (Blk.row (bH.l (aH v s')) e1))) n (aH v s') := Row.new _ _ _ _
  rw [aF (dY r4 ov)]
  simp only [gE]
  have q4 : (upd H3 n (some (Blk.row (bH.l (aH v s')) e1))) (n + 1) = some (Blk.row (bH.l fA.i.zero.cells) 31) := by rw [aP _ _ (by omega), o3 _ (by omega), r2]
  rw [eQ (Row.fH q4 dZ (v := .agg (aH v s')) (aW ov.h ov.b) (by decide) (dH b3.kind.2.1))]
  rw [gY (by show (aH v s').length = _; rw [aW ov.h ov.b]; rfl)]
  have hne : ∀ j, aL s' = some j → j ≠ n ∧ j ≠ n + 1 := fun j hj => by have := i3 j hj; omega
  have r5 : Row (upd (upd H3 n (some (Blk.row (bH.l (aH v s')) e1))) (n + 1) (some (Blk.row (bH.l (aA.agg (aH v s')).cells) 31))) (n + 1) (aH v s') := Row.new _ _ _ _
  simp only [cC, fgr, cE, nth, aN, cel, true_and]
  refine iH (dY r5 ov) ?_
  refine aS.2 ⟨s', rfl, b3.aO fun j hj => ?_, fun j hj => by have := i3 j hj; omega, fun j hj => ?_, m3⟩
  · rw [aP _ _ (hne j hj).2, aP _ _ (hne j hj).1]
  · rw [aP _ _ (by omega), aP _ _ (by omega), o3 j (by omega), old2 j hj]
theorem f77 (v : Ver) (sv : aA) (ov : v.Ok) (h : Hp) (n : Nat) (hs : Bytes h sv v.aE) (hsn : ∀ j, aL sv = some j → j < n) (hl : v.aE.length ≤ 1000000) (hf : bI h n) :
    Wp (bO env (aX env) 77 [.agg (aH v sv)]) h n fun v' h' n' => ∃ s', v' = .agg (aH v s') ∧ Bytes h' s' v.aE ∧ (∀ j, aL s' = some j → n ≤ j ∧ j < n') ∧ Old h h' n :=
  cG (JE v sv ov h n hs hsn hl hf) fun v' h' n' q => by obtain ⟨s', a, b, c, d, _⟩ := q; exact ⟨s', a, b, c, d⟩
theorem f73 (x : Nat) (cs : List aA) (b : Bool) (h : Hp) (n : Nat) (hr : Row h x cs) (hc : cs[0]? = some (.bool b)) : Wp (bO env (aX env) 73 [.ptr x 0]) h n fun v' h' n' => v' = .bool (!b) ∧ h' = h ∧ n' = n := by
  refine bG ah3 Z7 ?_
  simp only [QX, Try.f73, Option.getD_some, List.replicate, tyr, fgr, bor, aV, dV, unOp, aY, aM, bF, equal, cM, bZ, c8, Nat.reduceSub, aF (hr.one hc ti4 rfl), gE]
theorem f75 (h : Hp) (n : Nat) (v : aA) : Wp (bO env (aX env) 75 [v]) h n fun v' h' n' => v' = .bool true ∧ h' = h ∧ n' = n := by
  refine bG ah1 Z5 ?_
  simp only [QV, Try.f75, Option.getD_some, List.replicate, fgr, Nat.reduceSub, gE]
structure Ps (h : Hp) (D : Nat → Prop) (xs : List aA) (vs : List Ver) : Prop where
  len : xs.length = vs.length
  at_ : ∀ (j : Nat) x v, xs[j]? = some x → vs[j]? = some v → ∃ id sv, x = .ptr id 0 ∧ At h id sv v ∧ D id ∧ ∀ i, aL sv = some i → D i
theorem Ps.mono {h h' : Hp} {D D' : Nat → Prop} {xs : List aA} {vs : List Ver} (p : Ps h D xs vs) (hd : ∀ j, D j → D' j) (hk : ∀ j, D j → h' j = h j) : Ps h' D' xs vs :=
  ⟨p.len, fun j x v hx hv => by
    obtain ⟨id, sv, e, a, d1, d2⟩ := p.at_ j x v hx hv
    exact ⟨id, sv, e, a.aO (hk id d1) (fun i hi => hk i (d2 i hi)), hd id d1, fun i hi => hd i (d2 i hi)⟩⟩
theorem Ps.get {h : Hp} {D : Nat → Prop} {xs : List aA} {vs : List Ver} (p : Ps h D xs vs) {j : Nat} (hj : j < vs.length) : ∃ id sv, xs[j]? = some (.ptr id 0) ∧ At h id sv vs[j] ∧ D id ∧ ∀ i, aL sv = some i → D i := by
  have hx : j < xs.length := by rw [p.len]; exact hj
  obtain ⟨id, sv, e, a⟩ := p.at_ j _ _ (List.getElem?_eq_getElem hx) (List.getElem?_eq_getElem hj)
  exact ⟨id, sv, by rw [List.getElem?_eq_getElem hx, e], a⟩
theorem Ps.cells {h : Hp} {D : Nat → Prop} {xs : List aA} {vs : List Ver} (p : Ps h D xs vs) : xs.all bK = true := by
  refine KK fun j x hx => ?_
  have hj := (List.getElem?_eq_some_iff.1 hx).1
  obtain ⟨id, sv, rfl, _⟩ := p.at_ j x _ hx (List.getElem?_eq_getElem (by rw [← p.len]; exact hj))
  rfl
def hZ : Bool → Ver → Ver → Int
  | false => cV
  | true => DB
def fid : Bool → Nat
  | false => 84
  | true => 85
def fo (o : Bool) : aA := .fn (.func (fid o)) [] []
theorem hkO (o : Bool) (args : List aA) : iC env (aX env) (fid o) args = bO env (aX env) (fid o) args := by cases o <;> rfl
theorem fO (o : Bool) (a b : Nat) (sa sb : aA) (v w : Ver) (h : Hp) (n : Nat) (ha : AtN h n a sa v) (hb : AtN h n b sb w) (hf : bI h n) :
    Wp (bO env (aX env) (fid o) [.ptr a 0, .ptr b 0]) h n fun v' h' n' => v' = .int .i64 (hZ o v w) ∧ Old h h' n := by
  cases o
  · exact f84 a b sa sb v w h n ha hb hf
  · exact f85 a b sa sb v w h n ha hb hf
theorem u95 : und env 95 = M.pure (.slice 128) := rfl
theorem nJ : sizeOf env 128 = M.pure 1 := rfl
theorem mid (i j : Nat) (h : i + j ≤ 1000000000) : IntKind.i64.wrap (Int.fdiv (IntKind.u64.wrap (IntKind.i64.wrap ((i : Int) + (j : Int)))) (2 ^ min (Int.toNat 1) IntKind.u64.bits)) = (((i + j) / 2 : Nat) : Int) := by
  have e1 : IntKind.i64.wrap ((i : Int) + (j : Int)) = (i : Int) + (j : Int) := w64 (by omega) (by omega)
  have e2 : IntKind.u64.wrap ((i : Int) + (j : Int)) = (i : Int) + (j : Int) := WW (by omega) (by omega)
  have e3 : ((2 : Int) ^ min (Int.toNat 1) IntKind.u64.bits) = 2 := by decide
  have e4 : ((i : Int) + (j : Int)).fdiv 2 = (((i + j) / 2 : Nat) : Int) := by rw [Int.fdiv_eq_ediv_of_nonneg _ (by decide)]; omega
  rw [e1, e2, e3, e4]
  exact w64 (by omega) (by omega)
theorem LZ (Q : dM) (ks : List Kf) (o : Bool) (v : aA) (t : Nat) (st : aA) (tv : Ver) (cnt : Nat) (xs : List aA) (vs : List Ver) (D : Nat → Prop) (h0 : Hp) (n0 : Nat) (hc : cnt ≤ 100000000) (hv : Rds h0 1 v cnt xs) (hvn : ∀ j, aL v = some j → j < n0) (hp : Ps h0 D xs vs) (hD : ∀ j, D j → j < n0) (ht : AtN h0 n0 t st tv)
    (hmono : ∀ (a b : Nat) (ha : a < vs.length) (hb : b < vs.length), a < b → hZ o vs[b] tv < 0 → hZ o vs[a] tv < 0)
    (hT : ∀ (p : Nat) (h : Hp) (n : Nat) (x6 x7 x11 x17 x31 : aA), p ≤ cnt → (∀ k (hk : k < vs.length), k < p → hZ o vs[k] tv < 0) → (∀ k (hk : k < vs.length), p ≤ k → ¬ hZ o vs[k] tv < 0) → n0 ≤ n → bI h n → Old h0 h n0 →
      dR env 114 none Q ks (.exit 0) (v :: .ptr t 0 :: fo o :: aA.aB :: aA.aB :: aA.aB :: x6 :: x7 :: .int .i64 (cnt : Nat) :: .int .i64 (p : Nat) :: .int .i64 (p : Nat) :: x11 :: aA.aB :: aA.aB :: aA.aB :: aA.aB :: aA.aB :: x17 :: aA.aB :: aA.aB :: aA.aB :: aA.aB :: aA.aB :: aA.aB :: aA.aB :: aA.aB :: aA.aB :: aA.aB :: aA.aB :: aA.aB :: aA.aB :: x31 :: aA.aB :: aA.aB :: aA.aB :: aA.aB :: aA.aB :: aA.aB :: aA.aB :: aA.aB :: aA.aB :: aA.aB :: aA.aB :: aA.aB :: aA.aB :: aA.aB :: aA.aB :: aA.aB :: aA.aB :: []) h n) :
    ∀ (m i j : Nat) (h : Hp) (n : Nat) (x6 x7 x11 x17 x31 : aA), j - i ≤ m → i ≤ j → j ≤ cnt → (∀ k (hk : k < vs.length), k < i → hZ o vs[k] tv < 0) → (∀ k (hk : k < vs.length), j ≤ k → ¬ hZ o vs[k] tv < 0) → n0 ≤ n → bI h n → Old h0 h n0 →
      Run env 114 none Q (.loop tO) ks (v :: .ptr t 0 :: fo o :: aA.aB :: aA.aB :: aA.aB :: x6 :: x7 :: .int .i64 (cnt : Nat) :: .int .i64 (i : Nat) :: .int .i64 (j : Nat) :: x11 :: aA.aB :: aA.aB :: aA.aB :: aA.aB :: aA.aB :: x17 :: aA.aB :: aA.aB :: aA.aB :: aA.aB :: aA.aB :: aA.aB :: aA.aB :: aA.aB :: aA.aB :: aA.aB :: aA.aB :: aA.aB :: aA.aB :: x31 :: aA.aB :: aA.aB :: aA.aB :: aA.aB :: aA.aB :: aA.aB :: aA.aB :: aA.aB :: aA.aB :: aA.aB :: aA.aB :: aA.aB :: aA.aB :: aA.aB :: aA.aB :: aA.aB :: aA.aB :: []) h n := by
  intro m
  have hcl : cnt = vs.length := by have := hv.length; have := hp.len; omega
  induction m with
  | zero =>
    intro i j h n x6 x7 x11 x17 x31 hm hij hjc h1 h2 hn hf ho
    have : i = j := by omega
    subst this
    rw [bP]
    have hcc : ¬ ((i : Int) < (i : Int)) := by omega
    simp only [tO, bC, Try.f114, Option.getD_some, fgr, bor, List.getD_cons_zero, hcc, gE]
    exact hT i h n _ _ _ _ _ hjc h1 h2 hn hf ho
  | succ m ih =>
    intro i j h n x6 x7 x11 x17 x31 hm hij hjc h1 h2 hn hf ho
    rw [bP]
    by_cases hlt : i < j
    · have hcc : ((i : Int) < (j : Int)) := by omega
      have hk : (i + j) / 2 < cnt := by omega
      have hv' := hv.aO (h' := h) (fun j hj => ho j (hvn j hj))
      have hp' := hp.mono (D' := D) (fun _ q => q) (fun j hj => ho j (hD j hj))
      obtain ⟨id, sv, hx, a, d1, d2⟩ := hp'.get (j := (i + j) / 2) (by omega)
      have hidx := hv'.idx (E := env) u95 nJ (kk := .i64) (z := (((i + j) / 2 : Nat) : Int)) (j := (i + j) / 2) rfl hk (h' := h) (n' := n)
      have hld := hv'.load (E := env) iI rfl (k := (i + j) / 2 * 1) (n := n) (by rw [Nat.mul_one]; exact hx)
      simp only [tO, bC, Try.f114, Option.getD_some, tyr, fgr, lenOf, bor, cD, bR, Int.reduceLE, convert, lS, AP, List.getD_cons_zero, hcc, mid i j (by omega), gE]
      rw [aF hidx]
      simp only [gE]
      rw [aF hld]
      simp only [fo, hkO, gE]
      have atn : AtN h n id sv (vs[(i + j) / 2]'(by omega)) := ⟨a, by have := hD _ d1; omega, fun q hq => by have := hD _ (d2 q hq); omega⟩
      refine bD hf (fO o id t sv st _ tv h n atn (ht.old hn ho) hf) fun v' h' n' hn' hf' ⟨e', o'⟩ => ?_
      subst e'
      have ho' : Old h0 h' n0 := fun q hq => (o' q (by omega)).trans (ho q hq)
      by_cases hneg : hZ o (vs[(i + j) / 2]'(by omega)) tv < 0
      · have w1 : IntKind.i64.wrap ((((i + j) / 2 : Nat) : Int) + 1) = (((i + j) / 2 + 1 : Nat) : Int) := by rw [w64 (by omega) (by omega)]; omega
        simp only [fgr, bor, bR, hneg, w1, gE]
        exact ih ((i + j) / 2 + 1) j h' n' _ _ _ _ _ (by omega) (by omega) hjc (fun k hk hlt => by
          by_cases q : k = (i + j) / 2
          · subst q; exact hneg
          · exact hmono k ((i + j) / 2) hk (by omega) (by omega) hneg) h2 (by omega) hf' ho'
      · simp only [fgr, bor, hneg, gE]
        exact ih i ((i + j) / 2) h' n' _ _ _ _ _ (by omega) (by omega) (by omega) h1 (fun k hk hle hlt => by
          by_cases q : k = (i + j) / 2
          · subst q; exact hneg hlt
          · exact hneg (hmono ((i + j) / 2) k (by omega) hk (by omega) hlt)) (by omega) hf' ho'
    · have : i = j := by omega
      subst this
      have hcc : ¬ ((i : Int) < (i : Int)) := by omega
      simp only [tO, bC, Try.f114, Option.getD_some, fgr, bor, List.getD_cons_zero, hcc, gE]
      exact hT i h n _ _ _ _ _ hjc h1 h2 hn hf ho
structure Pos (o : Bool) (vs : List Ver) (t : Ver) (p : Nat) : Prop where
  le : p ≤ vs.length
  lo : ∀ k (hk : k < vs.length), k < p → hZ o vs[k] t < 0
  hi : ∀ k (hk : k < vs.length), p ≤ k → ¬ hZ o vs[k] t < 0
def tA (o : Bool) (vs : List Ver) (t : Ver) (p : Nat) : Bool := match vs[p]? with
  | some w => decide (hZ o w t = 0)
  | none => false
def GB (o : Bool) (vs : List Ver) (t : Ver) : Prop := ∀ (a b : Nat) (ha : a < vs.length) (hb : b < vs.length), a < b → hZ o vs[b] t < 0 → hZ o vs[a] t < 0
theorem f114 (o : Bool) (v : aA) (t : Nat) (st : aA) (tv : Ver) (cnt : Nat) (xs : List aA) (vs : List Ver) (D : Nat → Prop) (h : Hp) (n : Nat) (hc : cnt ≤ 100000000) (hv : Rds h 1 v cnt xs) (hvn : ∀ j, aL v = some j → j < n) (hp : Ps h D xs vs) (hD : ∀ j, D j → j < n) (ht : AtN h n t st tv)
    (hmono : GB o vs tv) (hf : bI h n) :
    Wp (bO env (aX env) 114 [v, .ptr t 0, fo o]) h n fun v' h' n' => ∃ p, Pos o vs tv p ∧ v' = .tup [.int .i64 (p : Nat), .bool (tA o vs tv p)] ∧ Old h h' n := by
  have hcl : cnt = vs.length := by have := hv.length; have := hp.len; omega
  refine bG VM UL ?_
  simp only [J4, Try.f114, Option.getD_some, List.replicate, fgr, builtin, Nat.reduceAdd, Nat.reduceSub, hv.cP u95, gE]
  refine LZ _ _ o v t st tv cnt xs vs D h n hc hv hvn hp hD ht hmono ?_ cnt 0 cnt h n _ _ _ _ _ (by omega) (by omega) (Nat.le_refl _) (fun k _ hk => by omega) (fun k hk hle => by omega) (Nat.le_refl _) hf (Old.refl _ _)
  intro p h1 n1 x6 x7 x11 x17 x31 hpc hlo hhi hn1 hf1 ho1
  have hP : Pos o vs tv p := ⟨by omega, hlo, hhi⟩
  by_cases hlt : p < cnt
  · have hcc : ((p : Int) < ((cnt : Nat) : Int)) := by omega
    have hv' := hv.aO (h' := h1) (fun j hj => ho1 j (hvn j hj))
    have hp' := hp.mono (D' := D) (fun _ q => q) (fun j hj => ho1 j (hD j hj))
    obtain ⟨id, sv, hx, a, d1, d2⟩ := hp'.get (j := p) (by omega)
    have hidx := hv'.idx (E := env) u95 nJ (kk := .i64) (z := ((p : Nat) : Int)) (j := p) rfl hlt (h' := h1) (n' := n1)
    have hld := hv'.load (E := env) iI rfl (k := p * 1) (n := n1) (by rw [Nat.mul_one]; exact hx)
    simp only [bor, hcc, gE]
    rw [aF hidx]
    simp only [gE]
    rw [aF hld]
    simp only [fo, hkO, gE]
    have atn : AtN h1 n1 id sv (vs[p]'(by omega)) := ⟨a, by have := hD _ d1; omega, fun q hq => by have := hD _ (d2 q hq); omega⟩
    refine bD hf1 (fO o id t sv st _ tv h1 n1 atn (ht.old hn1 ho1) hf1) fun v' h' n' hn' hf' ⟨e', o'⟩ => ?_
    subst e'
    have hia : tA o vs tv p = decide (hZ o (vs[p]'(by omega)) tv = 0) := by
      unfold tA
      rw [List.getElem?_eq_getElem (by omega)]
    simp only [fgr, bor, aY, gE]
    exact ⟨p, hP, by rw [hia], fun q hq => (o' q (by omega)).trans (ho1 q hq)⟩
  · have hcc : ¬ ((p : Int) < ((cnt : Nat) : Int)) := by omega
    have hia : tA o vs tv p = false := by
      unfold tA
      rw [List.getElem?_eq_none (by omega)]
    simp only [fgr, bor, aY, hcc, gE]
    exact ⟨p, hP, by rw [hia], ho1⟩
theorem f103 (o : Bool) (x off : Nat) (cs : List aA) (v : aA) (t : Nat) (st : aA) (tv : Ver) (cnt : Nat) (xs : List aA) (vs : List Ver) (D : Nat → Prop) (h : Hp) (n : Nat) (hr : Row h x cs) (hc0 : cs[off]? = some v) (hc1 : cs[off + 1]? = some (fo o)) (hc : cnt ≤ 100000000) (hv : Rds h 1 v cnt xs) (hvn : ∀ j, aL v = some j → j < n) (hp : Ps h D xs vs) (hD : ∀ j, D j → j < n) (ht : AtN h n t st tv)
    (hmono : GB o vs tv) (hf : bI h n) :
    Wp (bO env (aX env) 103 [.ptr x off, .ptr t 0]) h n fun v' h' n' => ∃ p, Pos o vs tv p ∧ v' = .tup [.int .i64 (p : Nat), .bool (tA o vs tv p)] ∧ Old h h' n := by
  refine bG VU UT ?_
  simp only [JC, Try.f103, Option.getD_some, List.replicate, fgr, Nat.reduceAdd, Nat.reduceSub, gE]
  refine bY ⟨rfl, ?_⟩
  simp only [tyr, aM, Nat.reduceAdd, gE]
  rw [aR (hr.one hc0 mK rfl)]
  simp only [tyr, aM, Nat.reduceAdd, gE]
  rw [aR (hr.one hc1 EN rfl)]
  simp only [hkr, Nat.reduceAdd, gE]
  refine cK hf (f114 o v t st tv cnt xs vs D h n hc hv hvn hp hD ht hmono hf) fun v5 h5 n5 r5 w5 hn5 f5 ⟨p, hP, e1, o1⟩ => ?_
  subst e1
  simp only [fgr, Nat.reduceAdd, gE]
  refine ⟨(by (try simp (disch := first | assumption | omega) only [dX, gF]); repeat' (first | rfl | exact (Bool.or_eq_true _ _).mpr (.inr rfl) | refine (Bool.and_eq_true _ _).mpr ⟨?_, ?_⟩)), ?_⟩
  exact ⟨p, hP, rfl, o1⟩
inductive Lp (h : Hp) : aA → Nat → List aA → Prop
  | nil : Lp h .aT 0 []
  | zero (id off : Nat) (c : bH) (hh : h id = some (.row c 128)) (hs : off ≤ c.size) : Lp h (.sl id off 0 (some 0) 1) 0 []
  | sl (id cnt : Nat) (cells xs : List aA) (hh : h id = some (.row (.l cells) 128)) (h0 : 0 < cells.length) (hl : cnt ≤ cells.length) (hx : cells.take cnt = xs) : Lp h (.sl id 0 cnt none 1) cnt xs
theorem Lp.rds {h : Hp} {s : aA} {cnt : Nat} {xs : List aA} (l : Lp h s cnt xs) : Rds h 1 s cnt xs := by
  cases l with
  | nil => exact .aT
  | zero id off c hh hs => exact .sl id off 0 (some 0) c 128 _ hh rfl (by simpa using hs) (fun j hj => by simp at hj)
  | sl id cnt cells xs hh h0 hl hx =>
    subst hx
    exact .sl id 0 cnt none (.l cells) 128 _ hh (by rw [List.length_take]; omega) (by rw [List.length_take]; show 0 + _ ≤ cells.length; omega) (fun j hj => by
      rw [List.length_take] at hj
      rw [Nat.zero_add, bH.vW (by omega), List.getElem_take])
theorem Lp.aO {h h' : Hp} {s : aA} {cnt : Nat} {xs : List aA} (l : Lp h s cnt xs) (hk : ∀ j, aL s = some j → h' j = h j) : Lp h' s cnt xs := by
  cases l with
  | nil => exact .nil
  | zero id off c hh hs => exact .zero id off c ((hk id rfl).trans hh) hs
  | sl id cnt cells xs hh h0 hl hx => exact .sl id cnt cells xs ((hk id rfl).trans hh) h0 hl hx
theorem Lp.dJ {h : Hp} {n : Nat} {s : aA} {cnt : Nat} {xs : List aA} (l : Lp h s cnt xs) (hf : bI h n) {j : Nat} (hj : aL s = some j) : j < n := by
  by_cases q : j < n
  · exact q
  · cases l with
    | nil => cases hj
    | zero id off c hh hs => injection hj with hj; subst hj; rw [hf id (by omega)] at hh; cases hh
    | sl id cnt cells xs hh h0 hl hx => injection hj with hj; subst hj; rw [hf id (by omega)] at hh; cases hh
theorem NV {h : Hp} {n xid k cnt : Nat} {s x : aA} {xs : List aA} (l : Lp h s cnt xs) (hx : h xid = some (.row (.l [x]) 128)) (h1 : bK x = true) (hk : k ≤ cnt) (hc : cnt ≤ 100000000) (hxs : xs.all bK = true) (hne : aL s ≠ some xid) (hf : bI h n) :
    Wp (sJ 128 nC.i [s, .int .i64 (k : Nat), .sl xid 0 1 (some 1) 1]) h n fun v' h' n' => v' = .sl n 0 (cnt + 1) none 1 ∧ n' = n + 1 ∧ h' n = some (.row (.l (fG xs k x)) 128) ∧ ∀ j, j < n → aL s ≠ some j → h' j = h j := by
  have hxn : xid < n := by
    by_cases q : xid < n
    · exact q
    · rw [hf xid (by omega)] at hx; cases hx
  have b1 : Nat.blt xid n = true := Nat.ble_eq_true_of_le hxn
  have b2 : Nat.blt 0 1 = true := rfl
  have r0 : ((2 * 1 * 8).ble room && (1).ble room) = true := rfl
  simp only [sJ, KU, gC, hx, Option.some.injEq, exists_eq_left', cW, fQ, b1, bH.size, bH.at, nth, List.length_singleton, b2, Nat.beq_refl, h1, Bool.and_self, true_and]
  cases l with
  | nil =>
    have : k = 0 := by omega
    subst this
    simp only [oW, iR, fQ, iT, aS, decide_true, Int.cast_ofNat_Int, nC, r0, true_and]
    exact ⟨bE _ _ _, fun j hj _ => aP _ _ (by omega)⟩
  | zero id off c hh hs =>
    have : k = 0 := by omega
    subst this
    have hid : id < n := by
      by_cases q : id < n
      · exact q
      · rw [hf id (by omega)] at hh; cases hh
    have b3 : Nat.blt id n = true := Nat.ble_eq_true_of_le hid
    have b4 : off.ble c.size = true := Nat.ble_eq_true_of_le hs
    unfold bH.size at b4
    simp only [bL, gC, hh, Option.some.injEq, exists_eq_left', cW, fQ, b3, b4, Nat.beq_refl, Bool.and_self, true_and, oW, iR, iT, aS, decide_true, Int.cast_ofNat_Int, nC, r0]
    exact ⟨bE _ _ _, fun j hj _ => aP _ _ (by omega)⟩
  | sl id cnt cells xs hh h0 hl hxx =>
    subst hxx
    have hid : id < n := by
      by_cases q : id < n
      · exact q
      · rw [hf id (by omega)] at hh; cases hh
    have b3 : Nat.blt id n = true := Nat.ble_eq_true_of_le hid
    have b4 : Nat.blt 0 cells.length = true := Nat.ble_eq_true_of_le h0
    have b5 : cnt.ble cells.length = true := Nat.ble_eq_true_of_le hl
    have b6 : (id.beq xid) = false := jU (fun e => hne (by rw [e]; rfl))
    have b7 : TU ((k : Nat) : Int) cnt = true := decide_eq_true ⟨by omega, by omega⟩
    have b8 : (bH.l cells).sub 0 cnt = cells.take cnt := rfl
    have r1 : ((2 * (cnt + 1) * 8).ble room && (cnt + 1).ble room) = true := by
      unfold room
      rw [dQ (by omega), dQ (by omega)]; rfl
    simp only [bL, gC, hh, Option.some.injEq, exists_eq_left', cW, fQ, b3, b4, b5, b6, b7, b8, hxs, Nat.beq_refl, Bool.not_false, Bool.and_self, true_and, y7, iR, iT, aS, nC, r1, Int.toNat_natCast]
    refine ⟨by simp, bE _ _ _, fun j hj hn => ?_⟩
    rw [aP _ _ (by omega), aP _ _ (fun e => hn (by rw [e]; rfl))]
theorem al7 (x : aA) (hx : x.cells = [x] ∧ bK x = true ∧ eI x = false) : buildSlice env 95 1 [(0, x)] = (newRow env 128 [x]).bind fun id => M.pure (.sl id 0 1 (some 1) 1) := by
  cases x with
  | agg l => cases hx.2.1
  | tup l => cases hx.2.1
  | aB => cases hx.2.1
  | _ => rfl
theorem f78 (o : Bool) (x off : Nat) (cs : List aA) (v : aA) (t : Nat) (st : aA) (tv : Ver) (cnt : Nat) (xs : List aA) (vs : List Ver) (D : Nat → Prop) (h : Hp) (n : Nat) (hr : Row h x cs) (hc0 : cs[off]? = some v) (hc1 : cs[off + 1]? = some (fo o)) (hc : cnt ≤ 10000000) (hv : Lp h v cnt xs) (hp : Ps h D xs vs) (hD : ∀ j, D j → j < n ∧ aL v ≠ some j) (ht : AtN h n t st tv)
    (hmono : GB o vs tv) (hx : x < n) (hxv : aL v ≠ some x) (hf : bI h n) :
    Wp (bO env (aX env) 78 [.ptr x off, .ptr t 0]) h n fun v' h' n' => v' = .tup [] ∧ ∃ p m, Pos o vs tv p ∧ n ≤ m ∧ m < n' ∧ Lp h' (.sl m 0 (cnt + 1) none 1) (cnt + 1) (fG xs p (.ptr t 0)) ∧ Row h' x (bV cs off [.sl m 0 (cnt + 1) none 1]) ∧ ∀ j, j < n → j ≠ x → aL v ≠ some j → h' j = h j := by
  have hcl : cnt = vs.length := by have := hv.rds.length; have := hp.len; omega
  have ho : off < cs.length := (List.getElem?_eq_some_iff.1 hc0).1
  refine bG ag8 Z2 ?_
  simp only [QS, Try.f78, Option.getD_some, List.replicate, hkr, Nat.reduceAdd, Nat.reduceSub, gE]
  refine bD hf (f103 o x off cs v t st tv cnt xs vs D h n hr hc0 hc1 (by omega) hv.rds (fun j hj => hv.dJ hf hj) hp (fun j hj => (hD j hj).1) ht hmono hf) fun v1 h1 n1 hn1 f1 ⟨p, hP, e1, o1⟩ => ?_
  subst e1
  have hr1 := hr.aO (o1 x hx)
  have hv1 := hv.aO (h' := h1) (fun j hj => o1 j (hv.dJ hf hj))
  simp only [tyr, fgr, aM, gE]
  rw [aF (hr1.one hc0 mK rfl)]
  simp only [tyr, hkr, newRow, al7 (.ptr t 0) ⟨rfl, rfl, rfl⟩, gE]
  obtain ⟨H2, hH2⟩ : ∃ H2, H2 = upd h1 n1 (some (Blk.row (bH.l [aA.ptr t 0]) 128)) := ⟨_, rfl⟩
  have f2 : bI H2 (n1 + 1) := by rw [hH2]; exact f1.new
  have o2 : ∀ j, j ≠ n1 → H2 j = h1 j := fun j hj => by rw [hH2, aP _ _ hj]
  have r2 : H2 n1 = some (Blk.row (bH.l [aA.ptr t 0]) 128) := by rw [hH2, bE]
  rw [← hH2]
  clear hH2
  have hv2 := hv1.aO (h' := H2) (fun j hj => o2 j (by have := hv.dJ hf hj; omega))
  have hvn : ∀ j, aL v = some j → j < n := fun j hj => hv.dJ hf hj
  refine bD f2 (NV hv2 r2 rfl (by have := hP.le; omega) (by omega) hp.cells (fun e => by have := hvn _ e; omega) f2) fun v3 h3 n3 hn3 f3 ⟨e3, e3n, r3, o3⟩ => ?_
  subst e3; subst e3n
  obtain ⟨ex, hx3⟩ := hr1.aO (h' := h3) ((o3 x (by omega) hxv).trans (o2 x (by omega)))
  have hil : (fG xs p (aA.ptr t 0)).length = cnt + 1 := by rw [j8, hp.len, hcl]
  simp only [tyr, aM, gE]
  rw [eQ (Row.fH (v := .sl (n1 + 1) 0 (cnt + 1) none 1) hx3 mK rfl (by show off + 1 ≤ _; omega) rfl)]
  simp only [cC, fgr, cE, aN, cel, true_and]
  refine ⟨p, n1 + 1, hP, by omega, by omega, .sl _ _ _ _ ((aP _ _ (by omega)).trans r3) (by omega) (by omega) (by rw [← hil, List.take_length]), Row.new _ _ _ _, fun j hj hjx hjv => ?_⟩
  rw [aP _ _ hjx, o3 j (by omega) hjv, o2 j (by omega), o1 j hj]
def gM {α : Type} (l : List α) (k : Nat) : List α := l.take k ++ l.drop (k + 1)
theorem oJ {α : Type} {l : List α} {k : Nat} (h : k < l.length) : (gM l k).length = l.length - 1 := by
  unfold gM
  rw [List.length_append, List.length_take, List.length_drop]; omega
theorem sl3 {id len i j : Nat} {z1 z2 z3 : Int} (e1 : z1 = (i : Nat)) (e2 : z2 = (j : Nat)) (e3 : z3 = (len : Nat)) (h1 : i ≤ j) (h2 : j ≤ len) {h' : Hp} {n' : Nat} :
    Rd (slice env 95 (.sl id 0 len none 1) (some (.int .i64 z1)) (some (.int .i64 z2)) (some (.int .i64 z3))) h' n' [] (.sl id i (j - i) (some (len - i)) 1) := by
  subst e1; subst e2; subst e3
  simp only [slice, u95, nJ, aI, cX, dF, bind_assoc, bL, Option.getD_none, Int.toNat_natCast, Nat.zero_add, Nat.mul_one]
  exact Rd.bind (i2 := []) (Rd.ob (decide_eq_true ⟨by omega, by omega⟩)) (Rd.bind (i2 := []) (Rd.ob (decide_eq_true ⟨by omega, by omega⟩)) (Rd.bind (i2 := []) (Rd.ob (decide_eq_true ⟨by omega, by omega⟩)) (Rd.pure _)))
theorem slh {id len k : Nat} {z : Int} (hz : z = (k : Nat)) (hk : k ≤ len) {h' : Hp} {n' : Nat} : Rd (slice env 95 (.sl id 0 len none 1) none (some (.int .i64 z)) none) h' n' [] (.sl id 0 k none 1) := by
  subst hz
  have hle : (decide (((k : Nat) : Int) ≤ ((len : Nat) : Int))) = true := decide_eq_true (by omega)
  simp only [slice, kZ, hle, u95, nJ, aI, cX, dF, bind_assoc, bL, Nat.zero_mul, Nat.add_zero, Nat.sub_zero, Int.toNat_natCast]
  exact Rd.bind (i2 := []) (Rd.ob (decide_eq_true ⟨by omega, by omega⟩)) (Rd.pure _)
theorem sll {id len k : Nat} {z : Int} (hz : z = (k : Nat)) (hk : k ≤ len) {h' : Hp} {n' : Nat} : Rd (slice env 95 (.sl id 0 len none 1) (some (.int .i64 z)) none none) h' n' [] (.sl id k (len - k) none 1) := by
  subst hz
  simp only [slice, kZ, u95, nJ, aI, cX, dF, bind_assoc, bL, Nat.zero_add, Nat.mul_one, Int.toNat_natCast]
  exact Rd.bind (i2 := []) (Rd.ob (decide_eq_true ⟨by omega, by omega⟩)) (Rd.pure _)
theorem slb {id len hi : Nat} {z1 z2 : Int} {cells : List aA} {e : TypeId} (e1 : z1 = (len : Nat)) (e2 : z2 = (hi : Nat)) (h1 : len < hi) (h2 : hi ≤ cells.length) {h' : Hp} {n' : Nat} (hh : h' id = some (.row (.l cells) e)) :
    Rd (slice env 95 (.sl id 0 len none 1) (some (.int .i64 z1)) (some (.int .i64 z2)) none) h' n' [id] (.sl id len (hi - len) none 1) := by
  subst e1; subst e2
  have hle : (decide (((hi : Nat) : Int) ≤ ((len : Nat) : Int))) = false := decide_eq_false (by omega)
  simp only [slice, kZ, hle, u95, nJ, aI, cX, dF, bind_assoc, bL, Nat.zero_add, Nat.mul_one, Int.toNat_natCast]
  refine Rd.bind (i1 := [id]) (i2 := []) (Rd.get hh) ?_
  simp only [cW, aI, bH.size, Nat.sub_zero, Nat.div_one]
  exact Rd.bind (i2 := []) (Rd.ob (decide_eq_true ⟨by omega, by omega⟩)) (Rd.bind (i2 := []) (Rd.ob (decide_eq_true ⟨by omega, by omega⟩)) (Rd.pure _))
theorem clr {id off : Nat} {cells : List aA} {e : TypeId} {h : Hp} {n : Nat} (hh : h id = some (.row (.l cells) e)) (ho : off + 1 ≤ cells.length) :
    Wp (nB env [95] (.sl id off 1 none 1)) h n fun v' h' n' => h' = upd h id (some (.row (.l (bV cells off [.fC])) e)) ∧ n' = n := by
  have hb : (off + 1).ble cells.length = true := dQ ho
  simp only [nB, u95, aI, gV, show (Nat.beq 1 0) = false from rfl, iI, bL, gI, List.append_nil, aA.cells, dS, bind_assoc, gC, hh, Option.some.injEq, exists_eq_left', cW, fQ, bH.size, List.length_singleton, hb, List.all_cons, List.all_nil, bK, Bool.and_true, true_and, mI, aS]
  rw [kU _ _ _ (by simpa using ho)]
  exact ⟨by simp, rfl, trivial⟩
theorem f105 (id cnt i : Nat) (cells xs : List aA) (h : Hp) (n : Nat) (hh : h id = some (.row (.l cells) 128)) (hl : cnt ≤ cells.length) (hx : cells.take cnt = xs) (hi : i < cnt) (hc : cnt ≤ 10000000) (h1 : xs.all bK = true) (hf : bI h n) :
    Wp (bO env (aX env) 105 [.sl id 0 cnt none 1, .int .i64 (i : Nat), .int .i64 (i + 1 : Nat)]) h n fun v' h' n' => v' = .sl id 0 (cnt - 1) none 1 ∧ n' = n ∧ ∃ cells', cells'.length = cells.length ∧ cells'.take (cnt - 1) = gM xs i ∧ h' id = some (.row (.l cells') 128) ∧ ∀ j, j ≠ id → h' j = h j := by
  have hxl : xs.length = cnt := by rw [← hx, List.length_take]; omega
  have hin : id < n := by
    by_cases q : id < n
    · exact q
    · rw [hf id (by omega)] at hh; cases hh
  refine bG VT US ?_
  simp only [JB, Try.f105, Option.getD_some, List.replicate, fgr, opt, builtin, blr, Nat.reduceAdd, Nat.reduceSub, gE]
  rw [aF (sl3 rfl rfl rfl (by omega) (by omega))]
  have ei : (((i : Nat) : Int) = ((i + 1 : Nat) : Int)) = False := by simp; omega
  simp only [fgr, builtin, blr, bor, ei, gE]
  refine bY ⟨rfl, ?_⟩
  simp only [opt, Nat.reduceAdd, gE]
  rw [aR (slh rfl (by omega))]
  simp only [opt, Nat.reduceAdd, gE]
  rw [aR (sll rfl (by omega))]
  simp only [builtin, Nat.reduceAdd, gE]
  have hsub : Rds h 1 (.sl id (i + 1) (cnt - (i + 1)) none 1) (cnt - (i + 1)) (xs.drop (i + 1)) := .sl id (i + 1) _ none (.l cells) 128 _ hh (by rw [List.length_drop, hxl]; omega) (by rw [List.length_drop, hxl]; show i + 1 + _ ≤ cells.length; omega) (fun j hj => by
    rw [List.length_drop, hxl] at hj
    subst hx
    rw [bH.vW (by omega), List.getElem_drop, List.getElem_take])
  have hone : (xs.drop (i + 1)).all bK = true := by
    rw [List.all_eq_true] at h1 ⊢
    exact fun x hx => h1 x (List.mem_of_mem_drop hx)
  have hdl : (xs.drop (i + 1)).length = cnt - (i + 1) := by rw [List.length_drop, hxl]
  refine cK hf (y8 (i := ⟨.pointer 31, 1, 8, .fC⟩) (e := 128) (cap := none) (Q1 := fun v' h' n' => v' = .sl id 0 (cnt - 1) none 1 ∧ n' = n ∧ h' = upd h id (some (.row (.l (bV cells i (xs.drop (i + 1)))) 128))) hh hsub u95 u95 iI hone (by decide) (by show (i + (cnt - (i + 1))) * 1 ≤ _; omega) (fun m hm => by cases hm) ?_) fun v5 h5 n5 r5 w5 hn5 f5 ⟨e1, e2, e3⟩ => ?_
  · refine ⟨by rw [show i + (cnt - (i + 1)) = cnt - 1 by omega], rfl, ?_⟩
    rw [Nat.mul_one]
  subst e1; subst e2; subst e3
  simp only [fgr, opt, builtin, blr, Nat.reduceAdd, gE]
  refine ⟨(by (try simp (disch := first | assumption | omega) only [dX, gF]); repeat' (first | rfl | exact (Bool.or_eq_true _ _).mpr (.inr rfl) | refine (Bool.and_eq_true _ _).mpr ⟨?_, ?_⟩)), ?_⟩
  have hsl : (bV cells i (xs.drop (i + 1))).length = cells.length := eA (by rw [hdl]; omega)
  rw [aF (slb rfl rfl (by omega) (by rw [hsl]; omega) (bE _ _ _))]
  simp only [builtin, gE]
  rw [show cnt - (cnt - 1) = 1 by omega]
  refine cG (clr (bE _ _ _) (by rw [hsl]; omega)) fun v6 h6 n6 ⟨e1, e2⟩ => ?_
  subst e1; subst e2
  simp only [fgr, gE]
  refine ⟨_, ?_, ?_, bE _ _ _, fun j hj => by rw [aP _ _ hj, aP _ _ hj]⟩
  · rw [eA (by rw [hsl]; simp; omega), hsl]
  · have a1 : (bV (bV cells i (xs.drop (i + 1))) (cnt - 1) [aA.fC]).take (cnt - 1) = (bV cells i (xs.drop (i + 1))).take (cnt - 1) := by
      unfold bV
      rw [List.take_append_of_le_length (by rw [List.length_take]; simp only [List.length_append, List.length_take, List.length_drop]; omega), List.take_take, Nat.min_self]
    have a2 := lL (xs := cells) (ys := xs.drop (i + 1)) (a := i) (by rw [hdl]; omega)
    rw [hdl, show i + (cnt - (i + 1)) = cnt - 1 by omega] at a2
    rw [a1, a2]
    unfold gM
    rw [← hx, List.take_take, Nat.min_eq_left (by omega)]
theorem f79 (o : Bool) (x off : Nat) (cs : List aA) (v : aA) (t : Nat) (st : aA) (tv : Ver) (cnt : Nat) (xs : List aA) (vs : List Ver) (D : Nat → Prop) (h : Hp) (n : Nat) (hr : Row h x cs) (hc0 : cs[off]? = some v) (hc1 : cs[off + 1]? = some (fo o)) (hc : cnt ≤ 10000000) (hv : Lp h v cnt xs) (hp : Ps h D xs vs) (hD : ∀ j, D j → j < n ∧ aL v ≠ some j) (ht : AtN h n t st tv)
    (hmono : GB o vs tv) (hin : ∃ w ∈ vs, ¬ hZ o w tv < 0) (hx : x < n) (hxv : aL v ≠ some x) (hf : bI h n) :
    Wp (bO env (aX env) 79 [.ptr x off, .ptr t 0]) h n fun v' h' n' => v' = .tup [] ∧ ∃ p id, Pos o vs tv p ∧ p < cnt ∧ aL v = some id ∧ Lp h' (.sl id 0 (cnt - 1) none 1) (cnt - 1) (gM xs p) ∧ Row h' x (bV cs off [.sl id 0 (cnt - 1) none 1]) ∧ ∀ j, j < n → j ≠ x → aL v ≠ some j → h' j = h j := by
  have hcl : cnt = vs.length := by have := hv.rds.length; have := hp.len; omega
  have ho : off < cs.length := (List.getElem?_eq_some_iff.1 hc0).1
  refine bG ag7 Z1 ?_
  simp only [QR, Try.f79, Option.getD_some, List.replicate, hkr, Nat.reduceAdd, Nat.reduceSub, gE]
  refine bD hf (f103 o x off cs v t st tv cnt xs vs D h n hr hc0 hc1 (by omega) hv.rds (fun j hj => hv.dJ hf hj) hp (fun j hj => (hD j hj).1) ht hmono hf) fun v1 h1 n1 hn1 f1 ⟨p, hP, e1, o1⟩ => ?_
  subst e1
  have hpc : p < cnt := by
    obtain ⟨w, hw, hwt⟩ := hin
    obtain ⟨k, hk, rfl⟩ := List.mem_iff_getElem.1 hw
    by_cases q : p < cnt
    · exact q
    · exact absurd (hP.lo k hk (by omega)) hwt
  have hr1 := hr.aO (o1 x hx)
  have hv1 := hv.aO (h' := h1) (fun j hj => o1 j (hv.dJ hf hj))
  have hvn : ∀ j, aL v = some j → j < n := fun j hj => hv.dJ hf hj
  have hxo := hp.cells
  cases hv1 with
  | nil => omega
  | zero id off c hh hs => omega
  | sl id cnt cells xs hh h0 hl hxx =>
  have w1 : IntKind.i64.wrap (((p : Nat) : Int) + 1) = ((p + 1 : Nat) : Int) := by rw [w64 (by omega) (by omega)]; omega
  simp only [tyr, fgr, aM, gE]
  rw [aF (hr1.one hc0 mK rfl)]
  simp only [hkr, bor, bR, w1, gE]
  refine bD f1 (f105 id cnt p cells xs h1 n1 hh hl hxx hpc hc hxo f1) fun v3 h3 n3 hn3 f3 ⟨e3, e3n, cells', l3, t3, r3, o3⟩ => ?_
  subst e3; subst e3n
  have hxid : x ≠ id := fun e => hxv (by rw [e]; rfl)
  obtain ⟨ex, hx3⟩ := hr1.aO (h' := h3) (o3 x hxid)
  simp only [tyr, aM, gE]
  rw [eQ (Row.fH (v := .sl id 0 (cnt - 1) none 1) hx3 mK rfl (by show off + 1 ≤ _; omega) rfl)]
  simp only [cC, fgr, cE, aN, cel, true_and]
  refine ⟨p, id, hP, hpc, rfl, .sl _ _ _ _ ((aP _ _ (fun e => hxid e.symm)).trans r3) (by omega) (by omega) t3, Row.new _ _ _ _, fun j hj hjx hjv => ?_⟩
  rw [aP _ _ hjx, o3 j (fun e => hjv (by rw [e]; rfl)), o1 j hj]
theorem nR : oP cV := ((iO.on Ver.aG).or (uI.on Ver.pn)).or (uI.on Ver.made)
theorem P9 : oP DB := (iO.on Ver.aE).or nR
theorem yK (o : Bool) : oP (hZ o) := by cases o; exact nR; exact P9
def dW (o : Bool) (vs : List Ver) : Prop := vs.Pairwise fun a b => hZ o a b < 0
theorem dW.at_ {o : Bool} {vs : List Ver} (r : dW o vs) {i j : Nat} (hi : i < vs.length) (hj : j < vs.length) (h : i < j) : hZ o vs[i] vs[j] < 0 := List.pairwise_iff_getElem.1 r i j hi hj h
theorem dW.mono {o : Bool} {vs : List Ver} (r : dW o vs) (t : Ver) : GB o vs t := fun a b ha hb hab h => (yK o).lt _ _ _ (r.at_ ha hb hab) h
theorem AQ {o : Bool} {vs : List Ver} {t : Ver} {p : Nat} (r : dW o vs) (hp : Pos o vs t p) : tA o vs t p = true ↔ ∃ w ∈ vs, hZ o w t = 0 := by
  unfold tA
  constructor
  · intro h
    cases e : vs[p]? with
    | none => rw [e] at h; cases h
    | some w =>
      rw [e] at h
      exact ⟨w, List.mem_of_getElem? e, of_decide_eq_true h⟩
  · rintro ⟨w, hw, he⟩
    obtain ⟨k, hk, rfl⟩ := List.mem_iff_getElem.1 hw
    have h1 : ¬ k < p := fun h => by have := hp.lo k hk h; omega
    have h2 : ¬ p < k := fun h => by
      have hpl : p < vs.length := by omega
      have := r.at_ hpl hk h
      rw [(yK o).eqr he] at this
      exact hp.hi p hpl (Nat.le_refl _) this
    have : k = p := by omega
    subst this
    rw [List.getElem?_eq_getElem hk]
    exact decide_eq_true he
theorem AR {α : Type} {l : List α} {k : Nat} {v w : α} : w ∈ fG l k v ↔ w = v ∨ w ∈ l := by
  unfold fG
  rw [List.mem_append, List.mem_cons]
  constructor
  · rintro (h | h | h)
    · exact .inr (List.mem_of_mem_take h)
    · exact .inl h
    · exact .inr (List.mem_of_mem_drop h)
  · rintro (h | h)
    · exact .inr (.inl h)
    · rw [← List.take_append_drop k l, List.mem_append] at h
      exact h.elim .inl fun h => .inr (.inr h)
theorem sI {α : Type} (l : List α) (k : Nat) (v : α) : (fG l k v).Perm (v :: l) := by
  unfold fG
  have h := @List.perm_middle α v (l.take k) (l.drop k)
  rwa [List.take_append_drop] at h
theorem jQ {α : Type} {l : List α} {k : Nat} (h : k < l.length) : l.Perm (l[k] :: gM l k) := by
  unfold gM
  have h1 : l = l.take k ++ l[k] :: l.drop (k + 1) := by
    rw [List.getElem_cons_drop, List.take_append_drop]
  have h2 := @List.perm_middle α l[k] (l.take k) (l.drop (k + 1))
  exact (List.Perm.of_eq h1).trans h2
theorem xI {o : Bool} {vs : List Ver} {t : Ver} {p : Nat} (r : dW o vs) (hp : Pos o vs t p) (hn : ∀ w ∈ vs, hZ o w t ≠ 0) : dW o (fG vs p t) := by
  unfold fG dW
  have r' := r
  rw [dW, ← List.take_append_drop p vs, List.pairwise_append] at r'
  obtain ⟨r1, r2, r3⟩ := r'
  rw [List.pairwise_append, List.pairwise_cons]
  have hlo : ∀ a ∈ vs.take p, hZ o a t < 0 := fun a ha => by
    obtain ⟨k, hk, rfl⟩ := List.mem_iff_getElem.1 ha
    rw [List.length_take] at hk
    rw [List.getElem_take]
    exact hp.lo k (by omega) (by omega)
  have hhi : ∀ a ∈ vs.drop p, hZ o t a < 0 := fun a ha => by
    obtain ⟨k, hk, rfl⟩ := List.mem_iff_getElem.1 ha
    rw [List.length_drop] at hk
    rw [List.getElem_drop]
    have h1 := hp.hi (p + k) (by omega) (by omega)
    have h2 := hn _ (List.getElem_mem (show p + k < vs.length by omega))
    have h3 := (yK o).lI vs[p + k] t
    omega
  refine ⟨r1, ⟨hhi, r2⟩, fun a ha b hb => ?_⟩
  rcases List.mem_cons.1 hb with rfl | hb
  · exact hlo a ha
  · exact r3 a ha b hb
theorem pC {o : Bool} {vs : List Ver} (r : dW o vs) (p : Nat) : dW o (gM vs p) := by
  refine List.Pairwise.sublist ?_ r
  unfold gM
  conv => rhs; rw [← List.take_append_drop p vs]
  exact List.Sublist.append (List.Sublist.refl _) (List.drop_sublist_drop_left _ (by omega))
theorem Ps.ins {h : Hp} {D : Nat → Prop} {xs : List aA} {vs : List Ver} (p : Ps h D xs vs) {t : Nat} {st : aA} {tv : Ver} (a : At h t st tv) (d1 : D t) (d2 : ∀ j, aL st = some j → D j) (k : Nat) : Ps h D (fG xs k (.ptr t 0)) (fG vs k tv) := by
  have hl := p.len
  refine ⟨by rw [j8, j8, hl], fun j x v hx hv => ?_⟩
  unfold fG at hx hv
  by_cases c : j < (xs.take k).length
  · have c2 : j < (vs.take k).length := by rw [List.length_take] at *; omega
    rw [List.getElem?_append_left c, List.getElem?_take] at hx
    rw [List.getElem?_append_left c2, List.getElem?_take] at hv
    split at hx
    · rename_i q
      rw [if_pos q] at hv
      exact p.at_ j x v hx hv
    · cases hx
  · have e1 : (xs.take k).length = (vs.take k).length := by rw [List.length_take, List.length_take, hl]
    rw [List.getElem?_append_right (by omega)] at hx
    rw [List.getElem?_append_right (by omega), ← e1] at hv
    cases hc : j - (xs.take k).length with
    | zero =>
      rw [hc] at hx hv
      injection hx with hx
      injection hv with hv
      subst hx; subst hv
      exact ⟨t, st, rfl, a, d1, d2⟩
    | succ m =>
      rw [hc] at hx hv
      rw [List.getElem?_cons_succ, List.getElem?_drop] at hx hv
      exact p.at_ _ x v hx hv
theorem Ps.del {h : Hp} {D : Nat → Prop} {xs : List aA} {vs : List Ver} (p : Ps h D xs vs) (k : Nat) : Ps h D (gM xs k) (gM vs k) := by
  have hl := p.len
  have e1 : (xs.take k).length = (vs.take k).length := by rw [List.length_take, List.length_take, hl]
  refine ⟨by unfold gM; rw [List.length_append, List.length_append, e1, List.length_drop, List.length_drop, hl], fun j x v hx hv => ?_⟩
  unfold gM at hx hv
  by_cases c : j < (xs.take k).length
  · rw [List.getElem?_append_left c, List.getElem?_take] at hx
    rw [List.getElem?_append_left (by omega), List.getElem?_take] at hv
    split at hx
    · rename_i q
      rw [if_pos q] at hv
      exact p.at_ j x v hx hv
    · cases hx
  · rw [List.getElem?_append_right (by omega), List.getElem?_drop] at hx
    rw [List.getElem?_append_right (by omega), ← e1, List.getElem?_drop] at hv
    exact p.at_ _ x v hx hv
structure IxV (h : Hp) (n : Nat) (D : Nat → Prop) (x : Nat) (vl vs : aA) (xl xs : List aA) (L S : List Ver) : Prop where
  row : Row h x [.bool true, vl, fo false, vs, fo true]
  l : Lp h vl L.length xl
  lp : Ps h D xl L
  s : Lp h vs S.length xs
  sp : Ps h D xs S
  xn : x < n
  dn : ∀ j, D j → j < n
  xd : ¬ D x
  vlx : ∀ j, aL vl = some j → j ≠ x ∧ ¬ D j
  vsx : ∀ j, aL vs = some j → j ≠ x ∧ ¬ D j ∧ aL vl ≠ some j
def IxS (h : Hp) (n : Nat) (D M : Nat → Prop) (x : Nat) (L S : List Ver) : Prop :=
  ∃ vl vs xl xs, IxV h n D x vl vs xl xs L S ∧ M x ∧ (∀ j, aL vl = some j → M j) ∧ (∀ j, aL vs = some j → M j) ∧ ∀ j, M j → j < n ∧ ¬ D j
structure Ch2 (h : Hp) (n : Nat) (M : Nat → Prop) (h' : Hp) (n' : Nat) (M' : Nat → Prop) : Prop where
  nx : n ≤ n'
  fr : bI h' n'
  m' : ∀ j, M' j → M j ∨ n ≤ j
  old : ∀ j, j < n → ¬ M j → h' j = h j
theorem Ch2.trans {h h1 h2 : Hp} {n n1 n2 : Nat} {M M1 M2 : Nat → Prop} (a : Ch2 h n M h1 n1 M1) (b : Ch2 h1 n1 M1 h2 n2 M2) : Ch2 h n M h2 n2 M2 where
  nx := Nat.le_trans a.nx b.nx
  fr := b.fr
  m' := fun j hj => (b.m' j hj).elim (a.m' j) (fun q => .inr (Nat.le_trans a.nx q))
  old := fun j hj hm => by
    rw [b.old j (by have := a.nx; omega) (fun q => by
      rcases a.m' j q with q | q
      · exact hm q
      · omega)]
    exact a.old j hj hm
theorem Ch2.of {h h' : Hp} {n n' : Nat} {M : Nat → Prop} (hf : bI h' n') (hn : n ≤ n') (ho : Old h h' n) : Ch2 h n M h' n' M := ⟨hn, hf, fun _ h => .inl h, fun j hj _ => ho j hj⟩
theorem IxS.qL {h h' : Hp} {n n' : Nat} {D M : Nat → Prop} {x : Nat} {L S : List Ver} (s : IxS h n D M x L S) (hn : n ≤ n') (ho : ∀ j, j < n → (D j ∨ M j) → h' j = h j) : IxS h' n' D M x L S := by
  obtain ⟨vl, vs, xl, xs, sv, mx, ml, ms, mn⟩ := s
  refine ⟨vl, vs, xl, xs, ⟨sv.row.aO (ho x sv.xn (.inr mx)), sv.l.aO (fun j q => ho j (mn j (ml j q)).1 (.inr (ml j q))), sv.lp.mono (fun j q => q) (fun j q => ho j (sv.dn j q) (.inl q)), sv.s.aO (fun j q => ho j (mn j (ms j q)).1 (.inr (ms j q))), sv.sp.mono (fun j q => q) (fun j q => ho j (sv.dn j q) (.inl q)), by have := sv.xn; omega, fun j q => by have := sv.dn j q; omega, sv.xd, sv.vlx, sv.vsx⟩, mx, ml, ms, fun j q => ⟨by have := (mn j q).1; omega, (mn j q).2⟩⟩
theorem IxS.old {h h' : Hp} {n n' : Nat} {D M : Nat → Prop} {x : Nat} {L S : List Ver} (s : IxS h n D M x L S) (hn : n ≤ n') (ho : Old h h' n) : IxS h' n' D M x L S := s.qL hn fun j hj _ => ho j hj
theorem tF {m : M aA} {h : Hp} {n : Nat} {Q Q' : aA → Hp → Nat → Prop} (hf : bI h n) (hw : Wp m h n Q) (hq : ∀ v h' n', n ≤ n' → bI h' n' → Q v h' n' → Q' v h' n') : Wp m h n Q' :=
  cG (hw.zA hf) fun v h' n' hh => hq v h' n' hh.2.1 hh.2.2 hh.1
theorem TQ (x t : Nat) (st : aA) (tv : Ver) (L S : List Ver) (D M : Nat → Prop) (h : Hp) (n : Nat) (hs : IxS h n D M x L S) (ht : AtN h n t st tv) (htm : ¬ M t) (hsm : ∀ j, aL st = some j → ¬ M j) (hr : dW false L) (hc : L.length ≤ 1000000) (hf : bI h n) :
    Wp (bO env (aX env) 78 [.ptr x 1, .ptr t 0]) h n fun v' h' n' => v' = .tup [] ∧ ∃ p M', Pos false L tv p ∧ IxS h' n' (fun j => D j ∨ j = t ∨ aL st = some j) M' x (fG L p tv) S ∧ Ch2 h n M h' n' M' := by
  obtain ⟨vl, vs, xl, xs, sv, mx, ml, ms, mn⟩ := hs
  refine tF hf (f78 false x 1 _ vl t st tv L.length xl L D h n sv.row rfl rfl (by omega) sv.l sv.lp (fun j hj => ⟨sv.dn j hj, fun q => (sv.vlx j q).2 hj⟩) ht (hr.mono tv) sv.xn (fun q => (sv.vlx x q).1 rfl) hf) fun v' h' n' hn' f' ⟨e, p, m, hp, hm1, hm2, l', r', o'⟩ => ?_
  have hil : (fG L p tv).length = L.length + 1 := j8 _ _ _
  have keepD : ∀ j, (D j ∨ j = t ∨ aL st = some j) → h' j = h j := fun j q => by
    rcases q with q | q | q
    · exact o' j (sv.dn j q) (fun e => sv.xd (by rw [← e]; exact q)) (fun e => (sv.vlx j e).2 q)
    · subst q; exact o' _ ht.idn (fun e => htm (by rw [e]; exact mx)) (fun e => htm (ml _ e))
    · exact o' j (ht.sn j q) (fun e => hsm j q (by rw [e]; exact mx)) (fun e => hsm j q (ml j e))
  have hne : ∀ j, (D j ∨ j = t ∨ aL st = some j) → j < n ∧ j ≠ x ∧ aL vs ≠ some j := fun j q => by
    rcases q with q | q | q
    · exact ⟨sv.dn j q, fun e => sv.xd (by rw [← e]; exact q), fun e => (sv.vsx j e).2.1 q⟩
    · subst q; exact ⟨ht.idn, fun e => htm (by rw [e]; exact mx), fun e => htm (ms _ e)⟩
    · exact ⟨ht.sn j q, fun e => hsm j q (by rw [e]; exact mx), fun e => hsm j q (ms j e)⟩
  have hw : ∀ j, aL vs = some j → h' j = h j := fun j q => o' j (mn j (ms j q)).1 ((sv.vsx j q).1) (fun e => (sv.vsx j q).2.2 e)
  refine ⟨e, p, fun j => j = x ∨ aL vs = some j ∨ j = m, hp, ⟨.sl m 0 (L.length + 1) none 1, vs, fG xl p (.ptr t 0), xs, ⟨r', ?_, ?_, ?_, ?_, by have := sv.xn; omega, fun j q => by have := (hne j q).1; omega, fun q => (hne x q).2.1 rfl, fun j q => ?_, fun j q => ?_⟩, .inl rfl, fun j q => ?_, fun j q => ?_, fun j q => ?_⟩, ⟨hn', f', fun j q => ?_, fun j hj hm => o' j hj (fun e => hm (by rw [e]; exact mx)) (fun e => hm (ml j e))⟩⟩
  · rw [hil]; exact l'
  · exact ((sv.lp.mono (D' := fun j => D j ∨ j = t ∨ aL st = some j) (fun j q => .inl q) (fun j q => keepD j (.inl q)))).ins (ht.toAt.aO (keepD t (.inr (.inl rfl))) (fun j q => keepD j (.inr (.inr q)))) (.inr (.inl rfl)) (fun j q => .inr (.inr q)) p
  · exact sv.s.aO hw
  · exact sv.sp.mono (fun j q => .inl q) (fun j q => keepD j (.inl q))
  · injection q with q
    subst q
    exact ⟨by have := sv.xn; omega, fun w => by have := (hne _ w).1; omega⟩
  · exact ⟨(sv.vsx j q).1, fun w => (hne j w).2.2 q, fun w => by injection w with w; have := (mn j (ms j q)).1; omega⟩
  · injection q with q; exact .inr (.inr q.symm)
  · exact .inr (.inl q)
  · rcases q with q | q | q
    · subst q; exact ⟨by have := sv.xn; omega, fun w => (hne _ w).2.1 rfl⟩
    · exact ⟨by have := (mn j (ms j q)).1; omega, fun w => (hne j w).2.2 q⟩
    · subst q; exact ⟨hm2, fun w => by have := (hne _ w).1; omega⟩
  · rcases q with q | q | q
    · subst q; exact .inl mx
    · exact .inl (ms j q)
    · exact .inr (by omega)
theorem TP (x t : Nat) (st : aA) (tv : Ver) (L S : List Ver) (D M : Nat → Prop) (h : Hp) (n : Nat) (hs : IxS h n D M x L S) (ht : AtN h n t st tv) (htm : ¬ M t) (hsm : ∀ j, aL st = some j → ¬ M j) (hr : dW true S) (hc : S.length ≤ 1000000) (hf : bI h n) :
    Wp (bO env (aX env) 78 [.ptr x 3, .ptr t 0]) h n fun v' h' n' => v' = .tup [] ∧ ∃ p M', Pos true S tv p ∧ IxS h' n' (fun j => D j ∨ j = t ∨ aL st = some j) M' x L (fG S p tv) ∧ Ch2 h n M h' n' M' := by
  obtain ⟨vl, vs, xl, xs, sv, mx, ml, ms, mn⟩ := hs
  refine tF hf (f78 true x 3 _ vs t st tv S.length xs S D h n sv.row rfl rfl (by omega) sv.s sv.sp (fun j hj => ⟨sv.dn j hj, fun q => (sv.vsx j q).2.1 hj⟩) ht (hr.mono tv) sv.xn (fun q => (sv.vsx x q).1 rfl) hf) fun v' h' n' hn' f' ⟨e, p, m, hp, hm1, hm2, l', r', o'⟩ => ?_
  have hil : (fG S p tv).length = S.length + 1 := j8 _ _ _
  have keepD : ∀ j, (D j ∨ j = t ∨ aL st = some j) → h' j = h j := fun j q => by
    rcases q with q | q | q
    · exact o' j (sv.dn j q) (fun e => sv.xd (by rw [← e]; exact q)) (fun e => (sv.vsx j e).2.1 q)
    · subst q; exact o' _ ht.idn (fun e => htm (by rw [e]; exact mx)) (fun e => htm (ms _ e))
    · exact o' j (ht.sn j q) (fun e => hsm j q (by rw [e]; exact mx)) (fun e => hsm j q (ms j e))
  have hne : ∀ j, (D j ∨ j = t ∨ aL st = some j) → j < n ∧ j ≠ x ∧ aL vl ≠ some j := fun j q => by
    rcases q with q | q | q
    · exact ⟨sv.dn j q, fun e => sv.xd (by rw [← e]; exact q), fun e => (sv.vlx j e).2 q⟩
    · subst q; exact ⟨ht.idn, fun e => htm (by rw [e]; exact mx), fun e => htm (ml _ e)⟩
    · exact ⟨ht.sn j q, fun e => hsm j q (by rw [e]; exact mx), fun e => hsm j q (ml j e)⟩
  have hw : ∀ j, aL vl = some j → h' j = h j := fun j q => o' j (mn j (ml j q)).1 ((sv.vlx j q).1) (fun e => (sv.vsx j e).2.2 q)
  refine ⟨e, p, fun j => j = x ∨ aL vl = some j ∨ j = m, hp, ⟨vl, .sl m 0 (S.length + 1) none 1, xl, fG xs p (.ptr t 0), ⟨r', ?_, ?_, ?_, ?_, by have := sv.xn; omega, fun j q => by have := (hne j q).1; omega, fun q => (hne x q).2.1 rfl, fun j q => ?_, fun j q => ?_⟩, .inl rfl, fun j q => ?_, fun j q => ?_, fun j q => ?_⟩, ⟨hn', f', fun j q => ?_, fun j hj hm => o' j hj (fun e => hm (by rw [e]; exact mx)) (fun e => hm (ms j e))⟩⟩
  · exact sv.l.aO hw
  · exact sv.lp.mono (fun j q => .inl q) (fun j q => keepD j (.inl q))
  · rw [hil]; exact l'
  · exact ((sv.sp.mono (D' := fun j => D j ∨ j = t ∨ aL st = some j) (fun j q => .inl q) (fun j q => keepD j (.inl q)))).ins (ht.toAt.aO (keepD t (.inr (.inl rfl))) (fun j q => keepD j (.inr (.inr q)))) (.inr (.inl rfl)) (fun j q => .inr (.inr q)) p
  · exact ⟨(sv.vlx j q).1, fun w => (hne j w).2.2 q⟩
  · injection q with q
    subst q
    exact ⟨by have := sv.xn; omega, fun w => by have := (hne _ w).1; omega, fun w => by have := (mn _ (ml _ w)).1; omega⟩
  · exact .inr (.inl q)
  · injection q with q; exact .inr (.inr q.symm)
  · rcases q with q | q | q
    · subst q; exact ⟨by have := sv.xn; omega, fun w => (hne _ w).2.1 rfl⟩
    · exact ⟨by have := (mn j (ml j q)).1; omega, fun w => (hne j w).2.2 q⟩
    · subst q; exact ⟨hm2, fun w => by have := (hne _ w).1; omega⟩
  · rcases q with q | q | q
    · subst q; exact .inl mx
    · exact .inl (ml j q)
    · exact .inr (by omega)
theorem NS (x t : Nat) (st : aA) (tv : Ver) (L S : List Ver) (D M : Nat → Prop) (h : Hp) (n : Nat) (hs : IxS h n D M x L S) (ht : AtN h n t st tv) (hr : dW false L) (hin : ∃ w ∈ L, hZ false w tv = 0) (hc : L.length ≤ 1000000) (hf : bI h n) :
    Wp (bO env (aX env) 79 [.ptr x 1, .ptr t 0]) h n fun v' h' n' => v' = .tup [] ∧ ∃ p, Pos false L tv p ∧ p < L.length ∧ IxS h' n' D M x (gM L p) S ∧ Ch2 h n M h' n' M := by
  obtain ⟨vl, vs, xl, xs, sv, mx, ml, ms, mn⟩ := hs
  refine tF hf (f79 false x 1 _ vl t st tv L.length xl L D h n sv.row rfl rfl (by omega) sv.l sv.lp (fun j hj => ⟨sv.dn j hj, fun q => (sv.vlx j q).2 hj⟩) ht (hr.mono tv) (by obtain ⟨w, hw, he⟩ := hin; exact ⟨w, hw, by omega⟩) sv.xn (fun q => (sv.vlx x q).1 rfl) hf) fun v' h' n' hn' f' ⟨e, p, id, hp, hpl, hid, l', r', o'⟩ => ?_
  have hdl : (gM L p).length = L.length - 1 := oJ hpl
  have keepD : ∀ j, D j → h' j = h j := fun j q => o' j (sv.dn j q) (fun e => sv.xd (by rw [← e]; exact q)) (fun e => (sv.vlx j e).2 q)
  have hw : ∀ j, aL vs = some j → h' j = h j := fun j q => o' j (mn j (ms j q)).1 ((sv.vsx j q).1) (fun e => (sv.vsx j q).2.2 e)
  refine ⟨e, p, hp, hpl, ⟨.sl id 0 (L.length - 1) none 1, vs, gM xl p, xs, ⟨r', ?_, ?_, ?_, ?_, by have := sv.xn; omega, fun j q => by have := sv.dn j q; omega, sv.xd, fun j q => ?_, fun j q => ?_⟩, mx, fun j q => ?_, fun j q => ?_, fun j q => ⟨by have := (mn j q).1; omega, (mn j q).2⟩⟩, ⟨hn', f', fun j q => .inl q, fun j hj hm => o' j hj (fun e => hm (by rw [e]; exact mx)) (fun e => hm (ml j e))⟩⟩
  · rw [hdl]; exact l'
  · exact (sv.lp.mono (fun j q => q) keepD).del p
  · exact sv.s.aO hw
  · exact sv.sp.mono (fun j q => q) keepD
  · injection q with q; subst q; exact sv.vlx _ hid
  · refine ⟨(sv.vsx j q).1, (sv.vsx j q).2.1, fun w => (sv.vsx j q).2.2 (by injection w with w; rw [← w]; exact hid)⟩
  · injection q with q; subst q; exact ml _ hid
  · exact ms j q
theorem NR (x t : Nat) (st : aA) (tv : Ver) (L S : List Ver) (D M : Nat → Prop) (h : Hp) (n : Nat) (hs : IxS h n D M x L S) (ht : AtN h n t st tv) (hr : dW true S) (hin : ∃ w ∈ S, hZ true w tv = 0) (hc : S.length ≤ 1000000) (hf : bI h n) :
    Wp (bO env (aX env) 79 [.ptr x 3, .ptr t 0]) h n fun v' h' n' => v' = .tup [] ∧ ∃ p, Pos true S tv p ∧ p < S.length ∧ IxS h' n' D M x L (gM S p) ∧ Ch2 h n M h' n' M := by
  obtain ⟨vl, vs, xl, xs, sv, mx, ml, ms, mn⟩ := hs
  refine tF hf (f79 true x 3 _ vs t st tv S.length xs S D h n sv.row rfl rfl (by omega) sv.s sv.sp (fun j hj => ⟨sv.dn j hj, fun q => (sv.vsx j q).2.1 hj⟩) ht (hr.mono tv) (by obtain ⟨w, hw, he⟩ := hin; exact ⟨w, hw, by omega⟩) sv.xn (fun q => (sv.vsx x q).1 rfl) hf) fun v' h' n' hn' f' ⟨e, p, id, hp, hpl, hid, l', r', o'⟩ => ?_
  have hdl : (gM S p).length = S.length - 1 := oJ hpl
  have keepD : ∀ j, D j → h' j = h j := fun j q => o' j (sv.dn j q) (fun e => sv.xd (by rw [← e]; exact q)) (fun e => (sv.vsx j e).2.1 q)
  have hw : ∀ j, aL vl = some j → h' j = h j := fun j q => o' j (mn j (ml j q)).1 ((sv.vlx j q).1) (fun e => (sv.vsx j e).2.2 q)
  refine ⟨e, p, hp, hpl, ⟨vl, .sl id 0 (S.length - 1) none 1, xl, gM xs p, ⟨r', ?_, ?_, ?_, ?_, by have := sv.xn; omega, fun j q => by have := sv.dn j q; omega, sv.xd, fun j q => ?_, fun j q => ?_⟩, mx, fun j q => ?_, fun j q => ?_, fun j q => ⟨by have := (mn j q).1; omega, (mn j q).2⟩⟩, ⟨hn', f', fun j q => .inl q, fun j hj hm => o' j hj (fun e => hm (by rw [e]; exact mx)) (fun e => hm (ms j e))⟩⟩
  · exact sv.l.aO hw
  · exact sv.lp.mono (fun j q => q) keepD
  · rw [hdl]; exact l'
  · exact (sv.sp.mono (fun j q => q) keepD).del p
  · exact sv.vlx j q
  · injection q with q; subst q; exact sv.vsx _ hid
  · exact ml j q
  · injection q with q; subst q; exact ms _ hid
def key (aG : List UInt8) (pn made : Int) : Ver := ⟨aG, pn, made, 0, [], false, 0, List.replicate 32 0⟩
theorem IN {aG : List UInt8} {pn made : Int} (h : aG.length = 32) : (key aG pn made).Ok := ⟨h, rfl⟩
theorem oZ {place : Nat → Option (Nat × Nat)} {i off sz : Nat} {pre mid post : List aA} {v : aA} {bM : List (Nat × aA)} (hp : place i = some (off, sz)) (h1 : pre.length = off) (h2 : mid.length = sz) (h3 : v.cells.length = sz) (h4 : eI v = false) :
    fill place (pre ++ mid ++ post) ((i, v) :: bM) = fill place (pre ++ v.cells ++ post) bM := by
  have e1 : (off + sz).ble (pre ++ mid ++ post).length = true := dQ (by simp only [List.length_append]; omega)
  have e2 : (pre ++ mid ++ post).take off = pre := by rw [List.append_assoc, List.take_left' h1]
  have e3 : (pre ++ mid ++ post).drop (off + sz) = post := by rw [List.drop_left' (by rw [List.length_append]; omega)]
  simp only [fill, hp, h4, Bool.not_false, h3, Nat.beq_refl, e1, Bool.and_self, e2, e3]
def z33 : List aA := List.replicate 32 (.int .u8 0) ++ [.int .u32 0]
def z36 : List aA := [.int .i64 0, .aT, .bool false, .int .i64 0] ++ List.replicate 32 (.int .u8 0)
theorem z31 : fA.i.zero.cells = [] ++ z33 ++ ([.int .i64 0] ++ z36) := rfl
theorem MW {aG : List UInt8} {pn made : Int} (hl : aG.length = 32) : build env 31 [(0, .agg (aQ aG pn)), (1, .int .i64 made)] = M.pure (.agg (aH (key aG pn made) .aT)) := by
  have h1 : (aA.agg (aQ aG pn)).cells.length = 33 := c9 hl
  have e1 : ∀ pl : Nat → Option (Nat × Nat), pl 0 = some (0, 33) → pl 1 = some (33, 1) → fill pl fA.i.zero.cells [(0, .agg (aQ aG pn)), (1, .int .i64 made)] = some (aH (key aG pn made) .aT) := fun pl p0 p1 => by
    rw [z31, oZ p0 rfl rfl h1 rfl, List.nil_append, ← List.append_assoc]
    rw [oZ p1 h1 rfl rfl rfl]
    simp only [fill]
    congr 1
    unfold aH nK key
    simp only [aA.cells, List.append_assoc]
    congr 1
  have e2 : build env 31 [(0, .agg (aQ aG pn)), (1, .int .i64 made)] = (eE "build" (fill ([(0, 33), (33, 1), (34, 1), (35, 1), (36, 1), (37, 1), (38, 32)][·]?) fA.i.zero.cells [(0, .agg (aQ aG pn)), (1, .int .i64 made)])).bind fun cs => M.pure (.agg cs) := rfl
  rw [e2, e1 _ rfl rfl]
  rfl
theorem f76 (x : Nat) (aG : List UInt8) (pn made : Int) (hl : aG.length = 32) (L S : List Ver) (D M : Nat → Prop) (h : Hp) (n : Nat) (hs : IxS h n D M x L S) (hr : dW false L) (hc : L.length ≤ 1000000) (hf : bI h n) :
    Wp (bO env (aX env) 76 [.ptr x 0, .agg (aQ aG pn), .int .i64 made]) h n fun v' h' n' => ((∀ w ∈ L, cV w (key aG pn made) ≠ 0) ∧ v' = .fC ∨ ∃ id sv w, w ∈ L ∧ cV w (key aG pn made) = 0 ∧ v' = .ptr id 0 ∧ At h' id sv w ∧ D id ∧ ∀ j, aL sv = some j → D j) ∧ Old h h' n := by
  have hs0 := hs
  obtain ⟨vl, vs, xl, xs, sv, mx, ml, ms, mn⟩ := hs
  refine bG ah0 Z4 ?_
  simp only [QU, Try.f76, Option.getD_some, List.replicate, Nat.reduceAdd, Nat.reduceSub, gE]
  refine cL (v := .agg (aQ aG pn)) gQ rfl hf fun H1 r1 o1 f1 => ?_
  simp only [fgr, gE]
  refine bY ⟨rfl, ?_⟩
  simp only [tyr, aM, Nat.reduceAdd, gE]
  have hld : Rd (load env 28 (.ptr n 0)) H1 (n + 1) [n] (.agg (aQ aG pn)) := Row.j9 r1 gQ rfl (c9 hl)
  rw [aR hld]
  simp only [Nat.reduceAdd, MW hl, gE]
  refine MM (v := .agg (aH (key aG pn made) .aT)) dZ rfl f1 fun H2 r w r2 o2 f2 => ?_
  simp only [hkr, Nat.reduceAdd, gE]
  have old2 : Old h H2 n := fun j hj => by rw [o2 j (by omega), o1 j (by omega)]
  have ht : AtN H2 (n + 1 + 1) (n + 1) .aT (key aG pn made) := ⟨⟨⟨_, r2⟩, .aT, IN hl⟩, by omega, fun j hj => by cases hj⟩
  have row2 := sv.row.aO (old2 x sv.xn)
  refine cK f2 (f103 false x 1 _ vl (n + 1) .aT (key aG pn made) L.length xl L D H2 _ row2 rfl rfl (by omega) (sv.l.aO (fun j q => old2 j (mn j (ml j q)).1)).rds (fun j q => by have := (mn j (ml j q)).1; omega) (sv.lp.mono (fun j q => q) (fun j q => old2 j (sv.dn j q))) (fun j q => by have := sv.dn j q; omega) ht (hr.mono _) f2) fun v3 h3 n3 r3 w3 hn3 f3 ⟨p, hP, e3, o3⟩ => ?_
  subst e3
  have old3 : Old h h3 n := fun j hj => by rw [o3 j (by omega), old2 j hj]
  simp only [fgr, unOp, Nat.reduceAdd, gE]
  refine ⟨(by (try simp (disch := first | assumption | omega) only [dX, gF]); repeat' (first | rfl | exact (Bool.or_eq_true _ _).mpr (.inr rfl) | refine (Bool.and_eq_true _ _).mpr ⟨?_, ?_⟩)), ?_⟩
  have hat := AQ hr hP
  cases hq : tA false L (key aG pn made) p with
  | false =>
    simp only [fgr, reduceCtorEq, gE]
    exact ⟨.inl (fun w hw he => by rw [hq] at hat; exact absurd (hat.2 ⟨w, hw, he⟩) (by decide)), old3⟩
  | true =>
    simp only [tyr, aM, gE]
    have hpl : p < L.length := by
      by_cases q : p < L.length
      · exact q
      · unfold tA at hq; rw [List.getElem?_eq_none (by omega)] at hq; cases hq
    have he : cV L[p] (key aG pn made) = 0 := by
      unfold tA at hq
      rw [List.getElem?_eq_getElem hpl] at hq
      exact of_decide_eq_true hq
    have row3 := sv.row.aO (old3 x sv.xn)
    have lp3 := sv.lp.mono (D' := D) (fun j q => q) (fun j q => old3 j (sv.dn j q))
    have l3 := sv.l.aO (fun j q => old3 j (mn j (ml j q)).1)
    obtain ⟨id, sw, hx, a, d1, d2⟩ := lp3.get hpl
    rw [aF (row3.one (off := 1) rfl mK rfl)]
    simp only [gE]
    rw [aF (l3.rds.idx u95 nJ rfl hpl)]
    simp only [gE]
    rw [aF (l3.rds.load iI rfl (by rw [Nat.mul_one]; exact hx))]
    simp only [fgr, reduceCtorEq, gE]
    exact ⟨.inr ⟨id, sw, L[p], List.getElem_mem hpl, he, rfl, a, d1, d2⟩, old3⟩
theorem qW {o : Bool} {vs : List Ver} (r : dW o vs) {a b : Ver} (ha : a ∈ vs) (hb : b ∈ vs) (h : hZ o a b = 0) : a = b := by
  obtain ⟨i, hi, rfl⟩ := List.mem_iff_getElem.1 ha
  obtain ⟨j, hj, rfl⟩ := List.mem_iff_getElem.1 hb
  rcases Nat.lt_trichotomy i j with q | q | q
  · have := r.at_ hi hj q; omega
  · subst q; rfl
  · have := r.at_ hj hi q
    have := (yK o).lI vs[i] vs[j]
    omega
def pos (o : Bool) (vs : List Ver) (t : Ver) : Nat := vs.countP fun w => decide (hZ o w t < 0)
theorem Pos.eq {o : Bool} {vs : List Ver} {t : Ver} {p : Nat} (h : Pos o vs t p) : p = pos o vs t := by
  unfold pos
  conv => rhs; rw [← List.take_append_drop p vs]
  rw [List.countP_append]
  have h1 : (vs.take p).countP (fun w => decide (hZ o w t < 0)) = p := by
    rw [List.countP_eq_length.2 (fun a ha => by
      obtain ⟨k, hk, rfl⟩ := List.mem_iff_getElem.1 ha
      rw [List.length_take] at hk
      rw [List.getElem_take]
      exact decide_eq_true (h.lo k (by omega) (by omega))), List.length_take]
    have := h.le; omega
  have h2 : (vs.drop p).countP (fun w => decide (hZ o w t < 0)) = 0 := by
    rw [List.countP_eq_zero]
    intro a ha
    obtain ⟨k, hk, rfl⟩ := List.mem_iff_getElem.1 ha
    rw [List.length_drop] at hk
    rw [List.getElem_drop]
    have := h.hi (p + k) (by omega) (by omega)
    simpa using this
  omega
theorem q8 {o : Bool} {vs : List Ver} {t : Ver} {p : Nat} (r : dW o vs) (h : Pos o vs t p) (ht : t ∈ vs) : ∃ hp : p < vs.length, vs[p] = t := by
  have ha := (AQ r h).2 ⟨t, ht, (yK o).refl t⟩
  unfold tA at ha
  cases e : vs[p]? with
  | none => rw [e] at ha; cases ha
  | some w =>
    rw [e] at ha
    obtain ⟨hp, hw⟩ := List.getElem?_eq_some_iff.1 e
    refine ⟨hp, ?_⟩
    rw [hw]
    exact qW r (List.mem_of_getElem? e) ht (of_decide_eq_true ha)
def lJ (L : List Ver) (v : Ver) : List Ver := fG L (pos false L v) v
def iZ (L : List Ver) (v : Ver) : List Ver := gM L (pos false L v)
structure Ix (h : Hp) (n : Nat) (D M : Nat → Prop) (x : Nat) (L : List Ver) : Prop where
  ex : ∃ S, IxS h n D M x L S ∧ dW true S ∧ L.Perm S
  r : dW false L
  ok : ∀ v ∈ L, v.Ok ∧ v.aE.length ≤ 1000000
structure Chg (h : Hp) (n : Nat) (D M : Nat → Prop) (h' : Hp) (n' : Nat) (D' M' : Nat → Prop) : Prop extends Ch2 h n M h' n' M' where
  d : ∀ j, D j → D' j
  d' : ∀ j, D' j → D j ∨ n ≤ j
theorem Chg.trans {h h1 h2 : Hp} {n n1 n2 : Nat} {D D1 D2 M M1 M2 : Nat → Prop} (a : Chg h n D M h1 n1 D1 M1) (b : Chg h1 n1 D1 M1 h2 n2 D2 M2) : Chg h n D M h2 n2 D2 M2 :=
  ⟨a.toCh2.trans b.toCh2, fun j hj => b.d j (a.d j hj), fun j hj => (b.d' j hj).elim (a.d' j) (fun q => .inr (Nat.le_trans a.nx q))⟩
theorem Chg.of {h h' : Hp} {n n' : Nat} {D M : Nat → Prop} (hf : bI h' n') (hn : n ≤ n') (ho : Old h h' n) : Chg h n D M h' n' D M := ⟨.of hf hn ho, fun _ h => h, fun _ h => .inl h⟩
theorem Ix.qL {h h' : Hp} {n n' : Nat} {D M : Nat → Prop} {x : Nat} {L : List Ver} (s : Ix h n D M x L) (hn : n ≤ n') (ho : ∀ j, j < n → (D j ∨ M j) → h' j = h j) : Ix h' n' D M x L := by
  obtain ⟨⟨S, a, b, c⟩, r, k⟩ := s
  exact ⟨⟨S, a.qL hn ho, b, c⟩, r, k⟩
theorem Ix.old {h h' : Hp} {n n' : Nat} {D M : Nat → Prop} {x : Nat} {L : List Ver} (s : Ix h n D M x L) (hn : n ≤ n') (ho : Old h h' n) : Ix h' n' D M x L := s.qL hn fun j hj _ => ho j hj
theorem am3 : build env 100 [(0, .bool true)] = M.pure (.agg [.bool true, .aT, .dL, .aT, .dL]) := rfl
theorem f40 (h : Hp) (n : Nat) (hf : bI h n) : Wp (bO env (aX env) 40 []) h n fun v' h' n' => ∃ x, v' = .ptr x 0 ∧ n ≤ x ∧ Ix h' n' (fun _ => False) (fun j => j = x) x [] ∧ Old h h' n := by
  refine bG aj1 ZP ?_
  simp only [RG, Try.f40, Option.getD_some, List.replicate, fgr, Nat.reduceSub, am3, gE]
  refine cL (v := .agg [.bool true, .aT, .dL, .aT, .dL]) DP rfl hf fun h1 r1 o1 f1 => ?_
  obtain ⟨e, he⟩ := r1
  simp only [tyr, fgr, aM, Nat.reduceAdd, gE]
  rw [eQ (Row.fH (v := .fn (.func 84) [] []) he EN rfl (by decide) rfl)]
  simp only [tyr, cel, aM, Nat.reduceAdd, gE]
  rw [eQ (Row.fH (v := .fn (.func 85) [] []) (bE _ _ _) EN rfl (by decide) rfl)]
  simp only [fgr, cel, gE]
  refine ⟨n, rfl, Nat.le_refl _, ⟨⟨[], ⟨.aT, .aT, [], [], ⟨?_, .nil, ⟨rfl, fun j x v hx => by simp at hx⟩, .nil, ⟨rfl, fun j x v hx => by simp at hx⟩, by omega, fun j q => q.elim, fun q => q, fun j q => (by cases q), fun j q => (by cases q)⟩, rfl, fun j q => (by cases q), fun j q => (by cases q), fun j q => ⟨by omega, fun w => w⟩⟩, .nil, .nil⟩, .nil, fun v hv => (by cases hv)⟩, fun j hj => ?_⟩
  · exact Row.new _ _ _ _
  · rw [aP _ _ (by omega), aP _ _ (by omega), o1 j (by omega)]
theorem f34 (x : Nat) (aG : List UInt8) (pn made : Int) (hl : aG.length = 32) (L : List Ver) (D M : Nat → Prop) (h : Hp) (n : Nat) (hs : Ix h n D M x L) (hc : L.length ≤ 1000000) (hf : bI h n) :
    Wp (bO env (aX env) 34 [.ptr x 0, .agg (aQ aG pn), .int .i64 made]) h n fun v' h' n' => ((∀ w ∈ L, cV w (key aG pn made) ≠ 0) ∧ v' = .int .i64 210 ∧ Ix h' n' D M x L ∨ ∃ w, w ∈ L ∧ cV w (key aG pn made) = 0 ∧ v' = .int .i64 0 ∧ Ix h' n' D M x (iZ L w)) ∧ Chg h n D M h' n' D M := by
  obtain ⟨⟨S, s, rS, perm⟩, rL, ok⟩ := hs
  have s0 := s
  obtain ⟨vl, vs, xl, xs, sv, mx, ml, ms, mn⟩ := s0
  refine bG aj7 ZV ?_
  simp only [RQ, Try.f34, Option.getD_some, List.replicate, Nat.reduceAdd, Nat.reduceSub, gE]
  refine cL (v := .agg (aQ aG pn)) gQ rfl hf fun H1 r1 o1 f1 => ?_
  have old1 : Old h H1 n := fun j hj => o1 j (by omega)
  simp only [fgr, hkr, gE]
  refine eU (f73 x _ true H1 (n + 1) (sv.row.aO (old1 x sv.xn)) rfl) ?_
  simp only [fgr, gE]
  have hld : Rd (load env 28 (.ptr n 0)) H1 (n + 1) [n] (.agg (aQ aG pn)) := Row.j9 r1 gQ rfl (c9 hl)
  rw [aF hld]
  simp only [hkr, gE]
  have s1 := s.old (n' := n + 1) (by omega) old1
  refine bD f1 (f76 x aG pn made hl L S D M H1 (n + 1) s1 rL hc f1) fun v2 h2 n2 hn2 f2 ⟨hh, o2⟩ => ?_
  have old2 : Old h h2 n := fun j hj => by rw [o2 j (by omega), old1 j hj]
  have s2 := s1.old hn2 o2
  rcases hh with ⟨hno, e2⟩ | ⟨id, sw, w, hw, hkey, e2, a, d1, d2⟩
  · subst e2
    simp only [tyr, fgr, bor, aV, dV, bF, equal, cM, bZ, c8, gE]
    exact ⟨.inl ⟨hno, ⟨⟨S, s2, rS, perm⟩, rL, ok⟩⟩, .of f2 (by omega) old2⟩
  subst e2
  simp only [tyr, fgr, hkr, bor, aV, dV, aM, bF, equal, cM, bZ, c8, gE]
  have at2 : AtN h2 n2 id sw w := ⟨a, by have := sv.dn id d1; omega, fun j q => by have := sv.dn j (d2 j q); omega⟩
  refine bD f2 (NS x id sw w L S D M h2 n2 s2 at2 rL ⟨w, hw, nR.refl w⟩ hc f2) fun v3 h3 n3 hn3 f3 ⟨e3, p, hp, hpl, s3, c3⟩ => ?_
  subst e3
  simp only [tyr, fgr, hkr, aM, gE]
  have hwm : ∀ j, D j → ¬ M j := fun j q w => (mn j w).2 q
  have at3 : AtN h3 n3 id sw w := ⟨a.aO (c3.old id at2.idn (hwm id d1)) (fun j q => c3.old j (at2.sn j q) (hwm j (d2 j q))), by have := at2.idn; omega, fun j q => by have := at2.sn j q; omega⟩
  have hwS : w ∈ S := perm.mem_iff.1 hw
  refine bD f3 (NR x id sw w _ S D M h3 n3 s3 at3 rS ⟨w, hwS, P9.refl w⟩ (by rw [← perm.length_eq]; exact hc) f3) fun v4 h4 n4 hn4 f4 ⟨e4, q, hq, hql, s4, c4⟩ => ?_
  subst e4
  simp only [fgr, gE]
  obtain ⟨hp1, hp2⟩ := q8 rL hp hw
  obtain ⟨hq1, hq2⟩ := q8 rS hq hwS
  have perm2 : (gM L p).Perm (gM S q) := by
    have e1 := jQ hp1
    have e2 := jQ hq1
    rw [hp2] at e1
    rw [hq2] at e2
    exact (List.perm_cons w).1 (e1.symm.trans (perm.trans e2))
  have e : gM L p = iZ L w := by unfold iZ; rw [← hp.eq]
  have ok2 : ∀ v ∈ gM L p, v.Ok ∧ v.aE.length ≤ 1000000 := fun v hv => ok v ((jQ hp1).mem_iff.2 (List.mem_cons_of_mem _ hv))
  rw [e] at s4 perm2 ok2
  exact ⟨.inr ⟨w, hw, hkey, ⟨⟨_, s4, pC rS q, perm2⟩, by rw [← e]; exact pC rL p, ok2⟩⟩, ⟨((Ch2.of f2 (by omega) old2).trans c3).trans c4, fun j q => q, fun j q => .inl q⟩⟩
theorem S0 {a b : Ver} (h : DB a b = 0) : cV a b = 0 := by
  unfold DB orI at h
  split at h
  · exact h
  · contradiction
def qG (v : Ver) : Bool := decide (v.made < 0) || (decide (v.bW ≠ 0) && (decide (v.bW < v.made) || decide (v.bW < 0)))
def oI (v : Ver) (L : List Ver) : Prop := qG v = true ∨ ∃ w ∈ L, cV w v = 0
theorem HE {h : Hp} {n : Nat} {D M : Nat → Prop} {x : Nat} {tv : Ver} {L S : List Ver} {p q : Nat} (hp : Pos false L tv p) (hq : Pos true S tv q) (rL : dW false L) (rS : dW true S) (perm : L.Perm S) (ok : ∀ v ∈ L, v.Ok ∧ v.aE.length ≤ 1000000) (okt : tv.Ok ∧ tv.aE.length ≤ 1000000)
    (hno : ∀ w ∈ L, cV w tv ≠ 0) (hs : IxS h n D M x (fG L p tv) (fG S q tv)) : Ix h n D M x (lJ L tv) := by
  have e : fG L p tv = lJ L tv := by unfold lJ; rw [← hp.eq]
  have rL2 := xI rL hp hno
  have rS2 := xI rS hq (fun w hw he => hno w (perm.mem_iff.2 hw) (S0 he))
  have pm : (fG L p tv).Perm (fG S q tv) := (sI L p tv).trans ((List.Perm.cons tv perm).trans (sI S q tv).symm)
  have ok2 : ∀ v ∈ fG L p tv, v.Ok ∧ v.aE.length ≤ 1000000 := fun v hv => by
    rcases AR.1 hv with rfl | hv
    · exact okt
    · exact ok v hv
  rw [e] at hs rL2 pm ok2
  exact ⟨⟨_, hs, rS2, pm⟩, rL2, ok2⟩
end Go.Am.Ytlgebaofkolkoaa
set_option linter.unusedSimpArgs false
set_option linter.unusedVariables false
set_option linter.defProp false
set_option maxRecDepth 10000
namespace Go.Am.Ytlgebaofkolkoaa
open Go Go.Am Go.Proofs
theorem f33 (x : Nat) (v : Ver) (sv : aA) (ov : v.Ok) (hsl : v.aE.length ≤ 1000000) (L : List Ver) (D M : Nat → Prop) (h : Hp) (n : Nat) (hs : Ix h n D M x L) (hb : Bytes h sv v.aE) (hsn : ∀ j, aL sv = some j → j < n) (hc : L.length ≤ 900000) (hf : bI h n) :
    Wp (bO env (aX env) 33 [.ptr x 0, .agg (aH v sv)]) h n fun v' h' n' => (oI v L ∧ v' = .int .i64 210 ∧ Ix h' n' D M x L ∧ Chg h n D M h' n' D M) ∨ (¬ oI v L ∧ v' = .int .i64 0 ∧ ∃ D' M', Ix h' n' D' M' x (lJ L v) ∧ Chg h n D M h' n' D' M') := by
  obtain ⟨⟨S, s, rS, perm⟩, rL, ok⟩ := hs
  have s0 := s
  obtain ⟨vl, vs, xl, xs, iv, mx, ml, ms, mn⟩ := s0
  refine bG aj8 ZW ?_
  simp only [RR, Try.f33, Option.getD_some, List.replicate, Nat.reduceAdd, Nat.reduceSub, gE]
  refine cL (v := .agg (aH v sv)) dZ rfl hf fun H1 r1 o1 f1 => ?_
  have old1 : Old h H1 n := fun j hj => o1 j (by omega)
  have s1 := s.old (n' := n + 1) (by omega) old1
  simp only [fgr, hkr, gE]
  refine eU (f73 x _ true H1 (n + 1) (iv.row.aO (old1 x iv.xn)) rfl) ?_
  simp only [tyr, fgr, aM, gE]
  rw [aF (cO r1 ov)]
  have bad : qG v = true → (oI v L ∧ aA.int .i64 210 = aA.int .i64 210 ∧ Ix H1 (n + 1) D M x L ∧ Chg h n D M H1 (n + 1) D M) ∨ (¬ oI v L ∧ aA.int .i64 210 = aA.int .i64 0 ∧ ∃ D' M', Ix H1 (n + 1) D' M' x (lJ L v) ∧ Chg h n D M H1 (n + 1) D' M') := fun e =>
    .inl ⟨.inl e, rfl, ⟨⟨S, s1, rS, perm⟩, rL, ok⟩, .of f1 (by omega) old1⟩
  by_cases c1 : v.made < 0
  · simp only [fgr, bor, aY, c1, gE]
    have := bad (by unfold qG; simp [c1])
    simpa using this
  simp only [tyr, bor, aM, c1, gE]
  rw [aF (dK r1 ov)]
  have go : (v.bW = 0 ∨ (¬ v.bW = 0 ∧ ¬ v.bW < v.made ∧ ¬ v.bW < 0)) ∨ (¬ v.bW = 0 ∧ (v.bW < v.made ∨ (¬ v.bW < v.made ∧ v.bW < 0))) := by omega
  rcases go with (c2 | ⟨c2, c3, c4⟩) | ⟨c2, c3 | ⟨c3, c4⟩⟩
  rotate_left 2
  · simp only [tyr, bor, aM, c2, gE]
    rw [aF (dK r1 ov)]
    simp only [tyr, aM, gE]
    rw [aF (cO r1 ov)]
    simp only [fgr, bor, aY, c3, gE]
    have := bad (by unfold qG; simp [c2, c3])
    simpa using this
  · simp only [tyr, bor, aM, c2, gE]
    rw [aF (dK r1 ov)]
    simp only [tyr, aM, gE]
    rw [aF (cO r1 ov)]
    simp only [tyr, bor, aM, c3, gE]
    rw [aF (dK r1 ov)]
    simp only [fgr, bor, aY, c4, gE]
    have := bad (by unfold qG; simp [c2, c4])
    simpa using this
  all_goals
    have ne : qG v = false := by
      unfold qG
      first | (simp [c1, c2, c3, c4]; done) | (simp [c1, c2]; done)
    first
      | (simp only [tyr, bor, aY, aM, c2, gE]
         rw [aF (fL r1 ov)])
      | (simp only [tyr, bor, aM, c2, gE]
         rw [aF (dK r1 ov)]
         simp only [tyr, aM, gE]
         rw [aF (cO r1 ov)]
         simp only [tyr, bor, aM, c3, gE]
         rw [aF (dK r1 ov)]
         simp only [tyr, bor, aY, aM, c4, gE]
         rw [aF (fL r1 ov)])
    simp only [tyr, aM, gE]
    rw [aF (cO r1 ov)]
    simp only [hkr, gE]
    refine bD f1 (f76 x v.aG v.pn v.made ov.h L S D M H1 (n + 1) s1 rL (by omega) f1) fun v2 h2 n2 hn2 f2 ⟨hh, o2⟩ => ?_
    have old2 : Old h h2 n := fun j hj => by rw [o2 j (by omega), old1 j hj]
    have s2 := s1.old hn2 o2
    rcases hh with ⟨hno, e2⟩ | ⟨id, sw, w, hw, hkey, e2, a, d1, d2⟩
    rotate_left
    · subst e2
      simp only [tyr, fgr, bor, aV, dV, aY, bF, equal, cM, bZ, c8, gE]
      exact .inl ⟨.inr ⟨w, hw, hkey⟩, ⟨⟨S, s2, rS, perm⟩, rL, ok⟩, .of f2 (by omega) old2⟩
    subst e2
    simp only [tyr, fgr, bor, aV, dV, aY, bF, equal, cM, bZ, c8, gE]
    have r2 := r1.aO (o2 n (by omega))
    rw [aF (dY r2 ov)]
    simp only [hkr, gE]
    refine bD f2 (f77 v sv ov h2 n2 (hb.aO fun j q => old2 j (hsn j q)) (fun j q => by have := hsn j q; omega) hsl f2) fun v3 h3 n3 hn3 f3 ⟨s', e3, b3, i3, o3⟩ => ?_
    subst e3
    simp only [gE]
    rw [fI dZ rfl]
    simp only [cel, gE]
    refine kC (v := .agg (aH v s')) dZ rfl (aW ov.h ov.b) (dH b3.kind.2.1) f3 fun H4 r4 o4 f4 => ?_
    have old4 : Old h2 H4 n2 := fun j hj => by rw [o4 j (by omega), o3 j hj]
    have s4 := s2.old (n' := n3 + 1) (by omega) old4
    have at4 : AtN H4 (n3 + 1) n3 s' v := ⟨⟨r4, b3.aO fun j q => o4 j (by have := i3 j q; omega), ov⟩, by omega, fun j q => by have := i3 j q; omega⟩
    simp only [tyr, fgr, hkr, aM, gE]
    refine bD f4 (TQ x n3 s' v L S D M H4 (n3 + 1) s4 at4 (fun q => by have := (mn _ q).1; omega) (fun j q w => by have := (mn _ w).1; have := i3 j q; omega) rL (by omega) f4) fun v5 h5 n5 hn5 f5 ⟨e5, p, M5, hp, s5, c5⟩ => ?_
    subst e5
    simp only [tyr, fgr, hkr, aM, gE]
    have nm5 : ∀ j, n2 ≤ j → j < n3 + 1 → ¬ M5 j := fun j q1 q2 w => by
      rcases c5.m' j w with w | w
      · have := (mn _ w).1; omega
      · omega
    have at5 : AtN h5 n5 n3 s' v := ⟨at4.toAt.aO (c5.old n3 (by omega) (fun q => by have := (mn _ q).1; omega)) (fun j q => c5.old j (at4.sn j q) (fun w => by have := (mn _ w).1; have := i3 j q; omega)), by omega, fun j q => by have := at4.sn j q; omega⟩
    refine bD f5 (TP x n3 s' v _ S _ M5 h5 n5 s5 at5 (nm5 n3 (by omega) (by omega)) (fun j q => nm5 j (i3 j q).1 (by have := i3 j q; omega)) rS (by rw [← perm.length_eq]; omega) f5) fun v6 h6 n6 hn6 f6 ⟨e6, q, M6, hq, s6, c6⟩ => ?_
    subst e6
    simp only [fgr, gE]
    have nP : ¬ oI v L := fun w => by
      rcases w with w | ⟨w, hw, he⟩
      · rw [ne] at w; cases w
      · exact hno w hw he
    have o04 : Old h H4 n := fun j hj => by rw [old4 j (by omega), old2 j hj]
    refine .inr ⟨nP, _, _, HE hp hq rL rS perm ok ⟨ov, hsl⟩ hno s6, ((Ch2.of f4 (by omega) o04).trans c5).trans c6, fun j w => .inl (.inl w), fun j w => ?_⟩
    rcases w with (w | w | w) | w | w
    · exact .inl w
    · subst w; exact .inr (by omega)
    · exact .inr (by have := i3 j w; omega)
    · subst w; exact .inr (by omega)
    · exact .inr (by have := i3 j w; omega)
theorem zF {L : List Ver} {p : Nat} {w : Ver} (h : w ∈ gM L p) : w ∈ L := by
  unfold gM at h
  rcases List.mem_append.1 h with h | h
  · exact List.mem_of_mem_take h
  · exact List.mem_of_mem_drop h
theorem RZ {o : Bool} {L : List Ver} {p : Nat} {w t : Ver} (r : dW o L) (hp : Pos o L w p) (hw : w ∈ L) (he : hZ o w t = 0) : ∀ a ∈ gM L p, hZ o a t ≠ 0 := by
  intro a ha h0
  obtain ⟨hp1, hp2⟩ := q8 r hp hw
  have haw : hZ o a w = 0 := by
    have := (yK o).eqr (d := a) he
    omega
  have e : a = w := qW r (zF ha) hw haw
  subst e
  have pm := jQ hp1
  rw [hp2] at pm
  have nd : L.Nodup := by
    refine List.Pairwise.imp ?_ r
    intro a b hab e
    subst e
    have := (yK o).refl a
    omega
  have := pm.nodup_iff.1 nd
  exact (List.nodup_cons.1 this).1 ha
theorem f80 (x id : Nat) (sw : aA) (w v : Ver) (L : List Ver) (D M : Nat → Prop) (h : Hp) (n : Nat) (hs : Ix h n D M x L) (hw : w ∈ L) (a : At h id sw w) (d1 : D id) (d2 : ∀ j, aL sw = some j → D j) (hv : cV w v = 0) (hvs : v.aE = w.aE) (ov : v.Ok) (hc : L.length ≤ 900000) (hf : bI h n) :
    Wp (bO env (aX env) 80 [.ptr x 0, .ptr id 0, .agg (aH v sw)]) h n fun v' h' n' => v' = .tup [] ∧ ∃ D' M', Ix h' n' D' M' x (lJ (iZ L w) v) ∧ Chg h n D M h' n' D' M' := by
  obtain ⟨⟨S, s, rS, perm⟩, rL, ok⟩ := hs
  have s0 := s
  obtain ⟨vl, vs, xl, xs, iv, mx, ml, ms, mn⟩ := s0
  refine bG ag6 Z0 ?_
  simp only [QQ, Try.f80, Option.getD_some, List.replicate, Nat.reduceAdd, Nat.reduceSub, gE]
  refine cL (v := .agg (aH v sw)) dZ rfl hf fun H1 r1 o1 f1 => ?_
  have old1 : Old h H1 n := fun j hj => o1 j (by omega)
  have s1 := s.old (n' := n + 1) (by omega) old1
  have hdm : ∀ j, D j → ¬ M j := fun j q w => (mn j w).2 q
  have a1 : AtN H1 (n + 1) id sw w := ⟨a.aO (old1 id (iv.dn id d1)) (fun j q => old1 j (iv.dn j (d2 j q))), by have := iv.dn id d1; omega, fun j q => by have := iv.dn j (d2 j q); omega⟩
  have b1 : AtN H1 (n + 1) n sw v := ⟨⟨r1, by rw [hvs]; exact a1.s, ov⟩, by omega, a1.sn⟩
  simp only [tyr, fgr, hkr, aM, gE]
  refine bD f1 (NS x id sw w L S D M H1 (n + 1) s1 a1 rL ⟨w, hw, nR.refl w⟩ (by omega) f1) fun v3 h3 n3 hn3 f3 ⟨e3, p, hp, hpl, s3, c3⟩ => ?_
  subst e3
  simp only [tyr, fgr, hkr, aM, gE]
  have nM : ¬ M n := fun q => by have := (mn n q).1; omega
  have a3 : AtN h3 n3 id sw w := ⟨a1.toAt.aO (c3.old id a1.idn (hdm id d1)) (fun j q => c3.old j (a1.sn j q) (hdm j (d2 j q))), by have := a1.idn; omega, fun j q => by have := a1.sn j q; omega⟩
  have b3 : AtN h3 n3 n sw v := ⟨b1.toAt.aO (c3.old n (by omega) nM) (fun j q => c3.old j (a1.sn j q) (hdm j (d2 j q))), by omega, a3.sn⟩
  have hwS : w ∈ S := perm.mem_iff.1 hw
  refine bD f3 (NR x id sw w _ S D M h3 n3 s3 a3 rS ⟨w, hwS, P9.refl w⟩ (by rw [← perm.length_eq]; omega) f3) fun v4 h4 n4 hn4 f4 ⟨e4, q, hq, hql, s4, c4⟩ => ?_
  subst e4
  simp only [tyr, fgr, hkr, aM, gE]
  have b4 : AtN h4 n4 n sw v := ⟨b3.toAt.aO (c4.old n (by omega) nM) (fun j q => c4.old j (a3.sn j q) (hdm j (d2 j q))), by omega, fun j q => by have := a3.sn j q; omega⟩
  obtain ⟨hp1, hp2⟩ := q8 rL hp hw
  obtain ⟨hq1, hq2⟩ := q8 rS hq hwS
  have perm2 : (gM L p).Perm (gM S q) := by
    have e1 := jQ hp1
    have e2 := jQ hq1
    rw [hp2] at e1
    rw [hq2] at e2
    exact (List.perm_cons w).1 (e1.symm.trans (perm.trans e2))
  have e : gM L p = iZ L w := by unfold iZ; rw [← hp.eq]
  have ok2 : ∀ v ∈ gM L p, v.Ok ∧ v.aE.length ≤ 1000000 := fun v hv => ok v (zF hv)
  have hno : ∀ a ∈ gM L p, cV a v ≠ 0 := RZ rL hp hw hv
  have rL2 := pC rL p
  have rS2 := pC rS q
  have hl2 : (gM L p).length ≤ 900000 := by have := oJ hp1; omega
  refine bD f4 (TQ x n sw v _ _ D M h4 n4 s4 b4 nM (fun j q => hdm j (d2 j q)) rL2 (by omega) f4) fun v5 h5 n5 hn5 f5 ⟨e5, p5, M5, hp5, s5, c5⟩ => ?_
  subst e5
  simp only [tyr, fgr, hkr, aM, gE]
  have nm5 : ∀ j, j < n4 → ¬ M j → ¬ M5 j := fun j q1 q2 w => by
    rcases c5.m' j w with w | w
    · exact q2 w
    · omega
  have b5 : AtN h5 n5 n sw v := ⟨b4.toAt.aO (c5.old n (by omega) nM) (fun j q => c5.old j (b4.sn j q) (hdm j (d2 j q))), by omega, fun j q => by have := b4.sn j q; omega⟩
  refine bD f5 (TP x n sw v _ _ _ M5 h5 n5 s5 b5 (nm5 n (by omega) nM) (fun j q => nm5 j (b4.sn j q) (hdm j (d2 j q))) rS2 (by rw [← perm2.length_eq]; omega) f5) fun v6 h6 n6 hn6 f6 ⟨e6, q6, M6, hq6, s6, c6⟩ => ?_
  subst e6
  simp only [cC, fgr, cE, put, aN, true_and]
  have fin := HE hp5 hq6 rL2 rS2 perm2 ok2 ⟨ov, by rw [hvs]; exact (ok w hw).2⟩ hno s6
  rw [e] at fin
  refine ⟨_, _, fin, ((((Ch2.of f1 (by omega) old1).trans c3).trans c4).trans c5).trans c6, fun j w => .inl (.inl w), fun j w => ?_⟩
  rcases w with (w | w | w) | w | w
  · exact .inl w
  · subst w; exact .inr (by omega)
  · exact .inl (d2 j w)
  · subst w; exact .inr (by omega)
  · exact .inl (d2 j w)
theorem uC {pre mid post vs : List aA} {off : Nat} (h1 : pre.length = off) (h2 : mid.length = vs.length) : bV (pre ++ (mid ++ post)) off vs = pre ++ (vs ++ post) := by
  have e : (pre ++ (mid ++ post)).drop (off + vs.length) = post := by rw [← List.append_assoc, List.drop_left' (by rw [List.length_append]; omega)]
  unfold bV
  rw [List.take_left' h1, e]
theorem jV {w : Ver} {sv : aA} (h : w.aG.length = 32) (s : Int) : bV (aH w sv) 37 [.int .i64 s] = aH { w with bW := s } sv := by
  have e : aH w sv = (aQ w.aG w.pn ++ [.int .i64 w.made, .int .i64 w.value, sv, .bool w.dN]) ++ ([.int .i64 w.bW] ++ w.by_.map u8) := by simp [aH, nK]
  rw [e, uC (mid := [.int .i64 w.bW]) (vs := [.int .i64 s]) (by rw [List.length_append, c9 h]; rfl) rfl]
  simp [aH, nK]
theorem mJ {w : Ver} {sv : aA} (h : w.aG.length = 32) (h2 : w.by_.length = 32) (b : List UInt8) (hb : b.length = 32) : bV (aH w sv) 38 (b.map u8) = aH { w with by_ := b } sv := by
  have e : aH w sv = (aQ w.aG w.pn ++ [.int .i64 w.made, .int .i64 w.value, sv, .bool w.dN, .int .i64 w.bW]) ++ (w.by_.map u8 ++ []) := by simp [aH, nK]
  rw [e, uC (by rw [List.length_append, c9 h]; rfl) (by simp [h2, hb])]
  simp [aH, nK]
def iY (w : Ver) (s : Int) (b : List UInt8) : Ver := { w with bW := s, by_ := b }
theorem f36 (x : Nat) (aG : List UInt8) (pn made s : Int) (b : List UInt8) (hl : aG.length = 32) (hbl : b.length = 32) (L : List Ver) (D M : Nat → Prop) (h : Hp) (n : Nat) (hs : Ix h n D M x L) (hc : L.length ≤ 900000) (hf : bI h n) :
    Wp (bO env (aX env) 36 [.ptr x 0, .agg (aQ aG pn), .int .i64 made, .int .i64 s, .agg (b.map u8)]) h n fun v' h' n' =>
      ((∀ w ∈ L, cV w (key aG pn made) = 0 → (w.bW ≠ 0 ∨ s < 1 ∨ s < made)) ∧ v' = .int .i64 210 ∧ Ix h' n' D M x L ∧ Chg h n D M h' n' D M) ∨
      (∃ w ∈ L, cV w (key aG pn made) = 0 ∧ w.bW = 0 ∧ 1 ≤ s ∧ made ≤ s ∧ v' = .int .i64 0 ∧ ∃ D' M', Ix h' n' D' M' x (lJ (iZ L w) (iY w s b)) ∧ Chg h n D M h' n' D' M') := by
  have hs0 := hs
  obtain ⟨⟨S, s0, rS, perm⟩, rL, ok⟩ := hs
  have s00 := s0
  obtain ⟨vl, vs, xl, xs, iv, mx, ml, ms, mn⟩ := s00
  refine bG aj5 ZT ?_
  simp only [RM, Try.f36, Option.getD_some, List.replicate, Nat.reduceAdd, Nat.reduceSub, gE]
  refine cL (v := .agg (aQ aG pn)) gQ rfl hf fun H1 r1 o1 f1 => ?_
  simp only [gE]
  refine cL (v := .agg (b.map u8)) nH rfl f1 fun H2 r2 o2 f2 => ?_
  have old2 : Old h H2 n := fun j hj => by rw [o2 j (by omega), o1 j (by omega)]
  have r1 := r1.aO (o2 n (by omega))
  simp only [fgr, hkr, gE]
  refine eU (f73 x _ true H2 (n + 1 + 1) (iv.row.aO (old2 x iv.xn)) rfl) ?_
  simp only [fgr, gE]
  have hld : Rd (load env 28 (.ptr n 0)) H2 (n + 1 + 1) [n] (.agg (aQ aG pn)) := Row.j9 r1 gQ rfl (c9 hl)
  rw [aF hld]
  simp only [hkr, gE]
  have s2 := s0.old (n' := n + 1 + 1) (by omega) old2
  refine bD f2 (f76 x aG pn made hl L S D M H2 _ s2 rL (by omega) f2) fun v3 h3 n3 hn3 f3 ⟨hh, o3⟩ => ?_
  have old3 : Old h h3 n := fun j hj => by rw [o3 j (by omega), old2 j hj]
  have ix3 : Ix h3 n3 D M x L := hs0.old (by omega) old3
  rcases hh with ⟨hno, e2⟩ | ⟨id, sw, w, hw, hkey, e2, a, d1, d2⟩
  · subst e2
    simp only [tyr, fgr, bor, aV, dV, aY, bF, equal, cM, bZ, c8, gE]
    exact .inl ⟨fun w hw he => absurd he (hno w hw), ix3, .of f3 (by omega) old3⟩
  subst e2
  have uq : ∀ u ∈ L, cV u (key aG pn made) = 0 → u = w := fun u hu he => qW rL hu hw (by
    have := nR.eqr (d := u) hkey
    show cV u w = 0
    omega)
  have okw := ok w hw
  by_cases c1 : w.bW = 0
  rotate_left
  · simp only [tyr, fgr, bor, aV, dV, aM, bF, equal, cM, bZ, c8, gE]
    rw [aF (dK a.row okw.1)]
    simp only [fgr, bor, aY, c1, gE]
    exact .inl ⟨fun u hu he => by rw [uq u hu he]; exact .inl c1, ix3, .of f3 (by omega) old3⟩
  by_cases c2 : s < 1
  · simp only [tyr, fgr, bor, aV, dV, aM, bF, equal, cM, bZ, c8, gE]
    rw [aF (dK a.row okw.1)]
    simp only [fgr, bor, aY, c1, c2, gE]
    exact .inl ⟨fun u hu he => by simp, ix3, .of f3 (by omega) old3⟩
  by_cases c3 : s < made
  · simp only [tyr, fgr, bor, aV, dV, aM, bF, equal, cM, bZ, c8, gE]
    rw [aF (dK a.row okw.1)]
    simp only [fgr, bor, aY, c1, c2, c3, gE]
    exact .inl ⟨fun u hu he => by simp, ix3, .of f3 (by omega) old3⟩
  simp only [tyr, fgr, bor, aV, dV, aM, bF, equal, cM, bZ, c8, gE]
  rw [aF (dK a.row okw.1)]
  simp only [fgr, bor, aY, c1, c2, c3, gE]
  rw [aF (dY a.row okw.1)]
  simp only [gE]
  rw [fI dZ rfl]
  simp only [cel, gE]
  refine kC (v := .agg (aH w sw)) dZ rfl (aW okw.1.h okw.1.b) (dH a.s.kind.2.1) f3 fun H4 r4 o4 f4 => ?_
  have r2 : Row H4 (n + 1) (b.map u8) := (r2.aO (o3 (n + 1) (by omega))).aO (o4 (n + 1) (by omega))
  obtain ⟨e4, r4⟩ := r4
  simp only [cC, fgr, cE, aN]
  refine bY ⟨rfl, ?_⟩
  simp only [gE]
  have hld2 : Rd (load env 25 (.ptr (n + 1) 0)) H4 (n3 + 1) [n + 1] (.agg (b.map u8)) := Row.j9 r2 nH rfl (by simp [hbl])
  rw [aR hld2]
  simp only [tyr, aM, Nat.reduceAdd, gE]
  refine mS (Row.fH (v := .int .i64 s) r4 ti3 rfl (by show 37 + 1 ≤ (aH w sw).length; rw [aW okw.1.h okw.1.b]; decide) rfl) ?_
  simp only [tyr, cel, aM, Nat.reduceAdd, gE]
  have w1 : bV (aH w sw) 37 [aA.int .i64 s] = aH { w with bW := s } sw := jV okw.1.h s
  rw [w1]
  refine mS (Row.fH (v := .agg (b.map u8)) (bE _ _ _) nH (by simp [aA.cells, hbl]) (by show 38 + 32 ≤ _; rw [aW (v := { w with bW := s }) okw.1.h okw.1.b]; decide) (pS b)) ?_
  have w2 : bV (aH { w with bW := s } sw) 38 (aA.agg (b.map u8)).cells = aH (iY w s b) sw := mJ (w := { w with bW := s }) okw.1.h okw.1.b b hbl
  rw [w2]
  simp only [fgr, Nat.reduceAdd, gE]
  refine ⟨(by (try simp (disch := omega) only [dX, gF]); repeat' (first | rfl | exact (Bool.or_eq_true _ _).mpr (.inr rfl) | refine (Bool.and_eq_true _ _).mpr ⟨?_, ?_⟩)), ?_⟩
  have f5 : bI (upd (upd H4 n3 (some (Blk.row (bH.l (aH { w with bW := s } sw)) e4))) n3 (some (Blk.row (bH.l (aH (iY w s b) sw)) e4))) (n3 + 1) := (f4.upd (by omega)).upd (by omega)
  obtain ⟨H5, hH5⟩ : ∃ H5, H5 = upd (upd H4 n3 (some (Blk.row (bH.l (aH { w with bW := s } sw)) e4))) n3 (some (Blk.row (bH.l (aH (iY w s b) sw)) e4)) := ⟨_, rfl⟩
  have o5 : ∀ j, j ≠ n3 → H5 j = h3 j := fun j hj => by rw [hH5, aP _ _ hj, aP _ _ hj, o4 j hj]
  have r5 : Row H5 n3 (aH (iY w s b) sw) := by rw [hH5]; exact Row.new _ _ _ _
  rw [← hH5] at f5
  rw [← hH5]
  clear hH5
  have ov5 : (iY w s b).Ok := ⟨okw.1.h, hbl⟩
  rw [aF (dY r5 ov5)]
  simp only [hkr, gE]
  have old5 : Old h H5 n := fun j hj => by rw [o5 j (by omega), old3 j hj]
  have ix5 : Ix H5 (n3 + 1) D M x L := hs0.old (by omega) old5
  have a5 : At H5 id sw w := a.aO (o5 id (by have := iv.dn id d1; omega)) (fun j q => o5 j (by have := iv.dn j (d2 j q); omega))
  refine bD f5 (f80 x id sw w (iY w s b) L D M H5 (n3 + 1) ix5 hw a5 d1 d2 (nR.refl w) rfl ov5 hc f5) fun v6 h6 n6 hn6 f6 ⟨e6, D', M', ix6, c6⟩ => ?_
  subst e6
  simp only [fgr, gE]
  exact .inr ⟨w, hw, hkey, c1, by omega, by omega, D', M', ix6, (Chg.of f5 (by omega) old5).trans c6⟩
def z32 : List UInt8 := List.replicate 32 0
theorem b25 : build env 25 [] = M.pure (.agg (z32.map u8)) := rfl
theorem f38 (x : Nat) (aG : List UInt8) (pn made : Int) (hl : aG.length = 32) (L : List Ver) (D M : Nat → Prop) (h : Hp) (n : Nat) (hs : Ix h n D M x L) (hc : L.length ≤ 900000) (hf : bI h n) :
    Wp (bO env (aX env) 38 [.ptr x 0, .agg (aQ aG pn), .int .i64 made]) h n fun v' h' n' =>
      ((∀ w ∈ L, cV w (key aG pn made) = 0 → w.bW = 0) ∧ v' = .int .i64 210 ∧ Ix h' n' D M x L ∧ Chg h n D M h' n' D M) ∨
      (∃ w ∈ L, cV w (key aG pn made) = 0 ∧ w.bW ≠ 0 ∧ v' = .int .i64 0 ∧ ∃ D' M', Ix h' n' D' M' x (lJ (iZ L w) (iY w 0 z32)) ∧ Chg h n D M h' n' D' M') := by
  have hs0 := hs
  obtain ⟨⟨S, s0, rS, perm⟩, rL, ok⟩ := hs
  have s00 := s0
  obtain ⟨vl, vs, xl, xs, iv, mx, ml, ms, mn⟩ := s00
  refine bG aj3 ZR ?_
  simp only [RJ, Try.f38, Option.getD_some, List.replicate, Nat.reduceAdd, Nat.reduceSub, gE]
  refine cL (v := .agg (aQ aG pn)) gQ rfl hf fun H2 r1 o1 f2 => ?_
  have old2 : Old h H2 n := fun j hj => by rw [o1 j (by omega)]
  simp only [fgr, hkr, gE]
  refine eU (f73 x _ true H2 (n + 1) (iv.row.aO (old2 x iv.xn)) rfl) ?_
  simp only [fgr, gE]
  have hld : Rd (load env 28 (.ptr n 0)) H2 (n + 1) [n] (.agg (aQ aG pn)) := Row.j9 r1 gQ rfl (c9 hl)
  rw [aF hld]
  simp only [hkr, gE]
  have s2 := s0.old (n' := n + 1) (by omega) old2
  refine bD f2 (f76 x aG pn made hl L S D M H2 _ s2 rL (by omega) f2) fun v3 h3 n3 hn3 f3 ⟨hh, o3⟩ => ?_
  have old3 : Old h h3 n := fun j hj => by rw [o3 j (by omega), old2 j hj]
  have ix3 : Ix h3 n3 D M x L := hs0.old (by omega) old3
  rcases hh with ⟨hno, e2⟩ | ⟨id, sw, w, hw, hkey, e2, a, d1, d2⟩
  · subst e2
    simp only [tyr, fgr, bor, aV, dV, aY, bF, equal, cM, bZ, c8, gE]
    exact .inl ⟨fun w hw he => absurd he (hno w hw), ix3, .of f3 (by omega) old3⟩
  subst e2
  have uq : ∀ u ∈ L, cV u (key aG pn made) = 0 → u = w := fun u hu he => qW rL hu hw (by
    have := nR.eqr (d := u) hkey
    show cV u w = 0
    omega)
  have okw := ok w hw
  by_cases c1 : w.bW = 0
  · simp only [tyr, fgr, bor, aV, dV, aM, bF, equal, cM, bZ, c8, gE]
    rw [aF (dK a.row okw.1)]
    simp only [fgr, bor, aY, c1, gE]
    exact .inl ⟨fun u hu he => by rw [uq u hu he]; exact c1, ix3, .of f3 (by omega) old3⟩
  simp only [tyr, fgr, bor, aV, dV, aM, bF, equal, cM, bZ, c8, gE]
  rw [aF (dK a.row okw.1)]
  simp only [fgr, bor, aY, c1, gE]
  rw [aF (dY a.row okw.1)]
  simp only [gE]
  rw [fI dZ rfl]
  simp only [cel, gE]
  refine kC (v := .agg (aH w sw)) dZ rfl (aW okw.1.h okw.1.b) (dH a.s.kind.2.1) f3 fun H4 r4 o4 f4 => ?_
  obtain ⟨e4, r4⟩ := r4
  simp only [tyr, fgr, aM, b25, gE]
  rw [eQ (Row.fH (v := .int .i64 0) r4 ti3 rfl (by show 37 + 1 ≤ (aH w sw).length; rw [aW okw.1.h okw.1.b]; decide) rfl)]
  simp only [tyr, cel, aM, gE]
  have w1 : bV (aH w sw) 37 [aA.int .i64 0] = aH { w with bW := 0 } sw := jV okw.1.h 0
  rw [w1]
  rw [eQ (Row.fH (v := .agg (z32.map u8)) (bE _ _ _) nH rfl (by show 38 + 32 ≤ _; rw [aW (v := { w with bW := 0 }) okw.1.h okw.1.b]; decide) (pS z32))]
  have w2 : bV (aH { w with bW := 0 } sw) 38 (aA.agg (z32.map u8)).cells = aH (iY w 0 z32) sw := mJ (w := { w with bW := 0 }) okw.1.h okw.1.b z32 rfl
  rw [w2]
  simp only [fgr, gE]
  have f5 : bI (upd (upd H4 n3 (some (Blk.row (bH.l (aH { w with bW := 0 } sw)) e4))) n3 (some (Blk.row (bH.l (aH (iY w 0 z32) sw)) e4))) (n3 + 1) := (f4.upd (by omega)).upd (by omega)
  obtain ⟨H5, hH5⟩ : ∃ H5, H5 = upd (upd H4 n3 (some (Blk.row (bH.l (aH { w with bW := 0 } sw)) e4))) n3 (some (Blk.row (bH.l (aH (iY w 0 z32) sw)) e4)) := ⟨_, rfl⟩
  have o5 : ∀ j, j ≠ n3 → H5 j = h3 j := fun j hj => by rw [hH5, aP _ _ hj, aP _ _ hj, o4 j hj]
  have r5 : Row H5 n3 (aH (iY w 0 z32) sw) := by rw [hH5]; exact Row.new _ _ _ _
  rw [← hH5] at f5
  rw [← hH5]
  clear hH5
  have ov5 : (iY w 0 z32).Ok := ⟨okw.1.h, rfl⟩
  rw [aF (dY r5 ov5)]
  simp only [hkr, gE]
  have old5 : Old h H5 n := fun j hj => by rw [o5 j (by omega), old3 j hj]
  have ix5 : Ix H5 (n3 + 1) D M x L := hs0.old (by omega) old5
  have a5 : At H5 id sw w := a.aO (o5 id (by have := iv.dn id d1; omega)) (fun j q => o5 j (by have := iv.dn j (d2 j q); omega))
  refine bD f5 (f80 x id sw w (iY w 0 z32) L D M H5 (n3 + 1) ix5 hw a5 d1 d2 (nR.refl w) rfl ov5 hc f5) fun v6 h6 n6 hn6 f6 ⟨e6, D', M', ix6, c6⟩ => ?_
  subst e6
  simp only [fgr, gE]
  exact .inr ⟨w, hw, hkey, c1, D', M', ix6, (Chg.of f5 (by omega) old5).trans c6⟩
structure Vs (h : Hp) (D : Nat → Prop) (cells : List aA) (vs : List Ver) : Prop where
  len : cells.length = vs.length * 70
  at_ : ∀ (j : Nat) (hj : j < vs.length), ∃ sv, (cells.drop (j * 70)).take 70 = aH vs[j] sv ∧ Bytes h sv vs[j].aE ∧ vs[j].Ok ∧ ∀ i, aL sv = some i → D i
theorem Vs.nil (h : Hp) (D : Nat → Prop) : Vs h D [] [] := ⟨rfl, fun j hj => by simp at hj⟩
theorem Vs.mono {h h' : Hp} {D D' : Nat → Prop} {cells : List aA} {vs : List Ver} (p : Vs h D cells vs) (hd : ∀ j, D j → D' j) (hk : ∀ j, D j → h' j = h j) : Vs h' D' cells vs :=
  ⟨p.len, fun j hj => by
    obtain ⟨sv, e, b, o, d⟩ := p.at_ j hj
    exact ⟨sv, e, b.aO (fun i hi => hk i (d i hi)), o, fun i hi => hd i (d i hi)⟩⟩
theorem Vs.wI {h : Hp} {D : Nat → Prop} {cells : List aA} {vs : List Ver} (p : Vs h D cells vs) {v : Ver} {sv : aA} (hb : Bytes h sv v.aE) (ho : v.Ok) (hd : ∀ i, aL sv = some i → D i) : Vs h D (cells ++ aH v sv) (vs ++ [v]) := by
  have hl := p.len
  have hv := aW (sv := sv) ho.h ho.b
  refine ⟨by simp [hl, hv]; omega, fun j hj => ?_⟩
  by_cases c : j < vs.length
  · obtain ⟨s2, e, b, o, d⟩ := p.at_ j c
    refine ⟨s2, ?_, ?_, ?_, d⟩
    · rw [List.drop_append_of_le_length (by omega), List.take_append_of_le_length (by rw [List.length_drop]; omega), e, List.getElem_append_left c]
    · rw [List.getElem_append_left c]; exact b
    · rw [List.getElem_append_left c]; exact o
  · have e : j = vs.length := by simp at hj; omega
    subst e
    refine ⟨sv, ?_, ?_, ?_, hd⟩
    · rw [← hl, List.drop_left, List.take_of_length_le (by omega)]; simp
    · simpa using hb
    · simpa using ho
structure Vm (h : Hp) (D : Nat → Prop) (cells : List aA) (vs : List Ver) : Prop extends Vs h D cells vs where
  mn : ∀ (j : Nat) x, cells[j * 70 + 35]? = some x → nW x = true
theorem Vm.nil (h : Hp) (D : Nat → Prop) : Vm h D [] [] := ⟨Vs.nil _ _, fun j x hx => by simp at hx⟩
theorem Vm.mono {h h' : Hp} {D D' : Nat → Prop} {cells : List aA} {vs : List Ver} (p : Vm h D cells vs) (hd : ∀ j, D j → D' j) (hk : ∀ j, D j → h' j = h j) : Vm h' D' cells vs := ⟨p.toVs.mono hd hk, p.mn⟩
theorem Vm.wI {h : Hp} {D : Nat → Prop} {cells : List aA} {vs : List Ver} (p : Vm h D cells vs) {v : Ver} {sv : aA} (hb : Bytes h sv v.aE) (ho : v.Ok) (hd : ∀ i, aL sv = some i → D i) (hm : nW sv = true) : Vm h D (cells ++ aH v sv) (vs ++ [v]) := by
  refine ⟨p.toVs.wI hb ho hd, fun j x hx => ?_⟩
  have hl := p.len
  by_cases c : j < vs.length
  · rw [List.getElem?_append_left (by omega)] at hx
    exact p.mn j x hx
  · rw [List.getElem?_append_right (by omega)] at hx
    have hv := aW (sv := sv) ho.h ho.b
    have hj := (List.getElem?_eq_some_iff.1 hx).1
    have : j = vs.length := by omega
    subst this
    rw [show vs.length * 70 + 35 - cells.length = 33 + 2 by omega, fT ho.h] at hx
    injection hx with hx
    rw [← hx]; exact hm
theorem u43 : und env 43 = M.pure (.slice 31) := rfl
theorem BV : sizeOf env 31 = M.pure 70 := rfl
theorem sO {X : List aA} (hX : X.length = 70) : buildSlice env 43 1 [(0, .agg X)] = (newRow env 31 X).bind fun id => M.pure (.sl id 0 1 (some 1) 70) := by
  have e1 : fill (fun k => some (k * 70, 70)) (gI fA.i.zero.cells 1) [(0, .agg X)] = some X := by
    have : gI fA.i.zero.cells 1 = [] ++ fA.i.zero.cells ++ [] := rfl
    rw [this, oZ (off := 0) (sz := 70) (pre := []) (mid := fA.i.zero.cells) (post := []) (v := .agg X) (bM := []) rfl rfl rfl hX rfl]
    simp [fill, aA.cells]
  have e2 : buildSlice env 43 1 [(0, .agg X)] = (eE "buildSlice" (fill (fun k => some (k * 70, 70)) (gI fA.i.zero.cells 1) [(0, .agg X)])).bind fun cs => (newRow env 31 cs).bind fun id => M.pure (.sl id 0 1 (some 1) 70) := rfl
  rw [e2, e1]
  rfl
def IsF (F : aA) (is : Ver → Bool) (h0 : Hp) (n0 : Nat) : Prop := ∀ (h : Hp) (n id : Nat) (sv : aA) (v : Ver), n0 ≤ n → Old h0 h n0 → AtN h n id sv v → bI h n → Wp (nF env (aX env) F [.ptr id 0]) h n fun v' h' n' => v' = .bool (is v) ∧ Old h h' n
theorem PL (Q : dM) (ks : List Kf) (F : aA) (is : Ver → Bool) (v : aA) (cnt : Nat) (xs : List aA) (vs : List Ver) (D : Nat → Prop) (h0 : Hp) (n0 : Nat) (hF : IsF F is h0 n0) (hc : cnt ≤ 1000000) (hv : Rds h0 1 v cnt xs) (hvn : ∀ j, aL v = some j → j < n0) (hp : Ps h0 D xs vs) (hD : ∀ j, D j → j < n0) (hsl : ∀ v ∈ vs, v.aE.length ≤ 1000000)
    (hT : ∀ (h : Hp) (n : Nat) (acc : aA) (cells : List aA) (x4 x7 x11 x16 : aA), Lst h 31 70 acc (vs.filter is).length cells → Vm h (fun j => n0 ≤ j ∧ j < n ∧ aL acc ≠ some j) cells (vs.filter is) → (∀ j, aL acc = some j → n0 ≤ j) → n0 ≤ n → bI h n → Old h0 h n0 →
      dR env 74 none Q ks (.exit 0) (v :: F :: aA.aB :: aA.aB :: x4 :: acc :: aA.aB :: x7 :: v :: .int .i64 (cnt : Nat) :: .int .i64 (cnt : Nat) :: x11 :: aA.aB :: aA.aB :: aA.aB :: aA.aB :: x16 :: aA.aB :: aA.aB :: aA.aB :: aA.aB :: aA.aB :: aA.aB :: aA.aB :: aA.aB :: aA.aB :: []) h n) :
    ∀ (m i : Nat) (h : Hp) (n : Nat) (acc : aA) (cells : List aA) (x4 x7 x11 x16 : aA), i + m = cnt → Lst h 31 70 acc ((vs.take i).filter is).length cells → Vm h (fun j => n0 ≤ j ∧ j < n ∧ aL acc ≠ some j) cells ((vs.take i).filter is) → (∀ j, aL acc = some j → n0 ≤ j) → n0 ≤ n → bI h n → Old h0 h n0 →
      Run env 74 none Q (.loop CD) ks (v :: F :: aA.aB :: aA.aB :: x4 :: acc :: aA.aB :: x7 :: v :: .int .i64 (cnt : Nat) :: .int .i64 (i : Nat) :: x11 :: aA.aB :: aA.aB :: aA.aB :: aA.aB :: x16 :: aA.aB :: aA.aB :: aA.aB :: aA.aB :: aA.aB :: aA.aB :: aA.aB :: aA.aB :: aA.aB :: []) h n := by
  have hcl : cnt = vs.length := by have := hv.length; have := hp.len; omega
  intro m
  induction m with
  | zero =>
    intro i h n acc cells x4 x7 x11 x16 hm ha hV hi hn hf ho
    have : i = cnt := by omega
    subst this
    rw [bP]
    have hcc : ¬ (((i : Nat) : Int) < ((i : Nat) : Int)) := by omega
    simp only [CD, bC, Try.f74, Option.getD_some, fgr, bor, List.getD_cons_zero, hcc, gE]
    rw [hcl, List.take_length] at ha hV
    exact hT h n acc cells _ _ _ _ ha hV hi hn hf ho
  | succ m ih =>
    intro i h n acc cells x4 x7 x11 x16 hm ha hV hi hn hf ho
    rw [bP]
    have hil : i < cnt := by omega
    have hcc : (((i : Nat) : Int) < ((cnt : Nat) : Int)) := by omega
    have hv' := hv.aO (h' := h) (fun j hj => ho j (hvn j hj))
    have hp' := hp.mono (D' := D) (fun _ q => q) (fun j hj => ho j (hD j hj))
    obtain ⟨id, sv, hx, a, d1, d2⟩ := hp'.get (j := i) (by omega)
    have hidx := hv'.idx (E := env) u95 nJ (kk := .i64) (z := ((i : Nat) : Int)) (j := i) rfl hil (h' := h) (n' := n)
    have hld := hv'.load (E := env) iI rfl (k := i * 1) (n := n) (by rw [Nat.mul_one]; exact hx)
    have atn : AtN h n id sv (vs[i]'(by omega)) := ⟨a, by have := hD _ d1; omega, fun q hq => by have := hD _ (d2 q hq); omega⟩
    have w1 : IntKind.i64.wrap (((i : Nat) : Int) + 1) = ((i + 1 : Nat) : Int) := by rw [w64 (by omega) (by omega)]; omega
    have htk : vs.take (i + 1) = vs.take i ++ [vs[i]'(by omega)] := by rw [List.take_add_one, List.getElem?_eq_getElem (by omega)]; rfl
    simp only [CD, bC, Try.f74, Option.getD_some, fgr, bor, List.getD_cons_zero, hcc, gE]
    rw [aF hidx]
    simp only [gE]
    rw [aF hld]
    simp only [fgr, gE]
    refine bD hf (hF h n id sv _ hn ho atn hf) fun v1 h1 n1 hn1 f1 ⟨e1, o1⟩ => ?_
    subst e1
    have ho1 : Old h0 h1 n0 := fun q hq => (o1 q (by omega)).trans (ho q hq)
    have ha1 := ha.aO (h' := h1) (fun j q => o1 j (ha.dJ hf q))
    have hV1 := hV.mono (h' := h1) (D' := fun j => n0 ≤ j ∧ j < n1 ∧ aL acc ≠ some j) (fun j q => ⟨q.1, by omega, q.2.2⟩) (fun j q => o1 j q.2.1)
    have at1 := atn.old hn1 o1
    cases hq : is (vs[i]'(by omega)) with
    | false =>
      simp only [fgr, bor, bR, w1, gE]
      exact ih (i + 1) h1 n1 acc cells _ _ _ _ (by omega) (by rw [htk, List.filter_append]; simpa [hq] using ha1) (by rw [htk, List.filter_append]; simpa [hq] using hV1) hi (by omega) f1 ho1
    | true =>
      simp only [fgr, gE]
      rw [aF (dY at1.row at1.ok)]
      simp only [hkr, gE]
      refine bD f1 (JE _ sv at1.ok h1 n1 at1.s at1.sn (hsl _ (List.getElem_mem _)) f1) fun v2 h2 n2 hn2 f2 ⟨s', e2, b2, i2, o2, m2⟩ => ?_
      subst e2
      simp only [tyr, builtin, newRow, sO (aW at1.ok.h at1.ok.b), gE]
      obtain ⟨H3, hH3⟩ : ∃ H3, H3 = upd h2 n2 (some (Blk.row (bH.l (aH (vs[i]'(by omega)) s')) 31)) := ⟨_, rfl⟩
      have f3 : bI H3 (n2 + 1) := by rw [hH3]; exact f2.new
      have o3 : ∀ j, j ≠ n2 → H3 j = h2 j := fun j hj => by rw [hH3, aP _ _ hj]
      have r3 : H3 n2 = some (Blk.row (bH.l (aH (vs[i]'(by omega)) s')) 31) := by rw [hH3, bE]
      rw [← hH3]
      clear hH3
      have o13 : Old h1 H3 n1 := fun j hj => by rw [o3 j (by omega), o2 j hj]
      have ha3 := ha1.aO (h' := H3) (fun j q => o13 j (ha1.dJ f1 q))
      have hlen : ((vs.take i).filter is).length ≤ 1000000 := by
        have h1 := List.length_filter_le is (vs.take i)
        have h2 : (vs.take i).length ≤ vs.length := by rw [List.length_take]; omega
        omega
      refine fV (i := fA.i) (e := 31) ha3 (mL (cnt := 1) r3 (by rw [aW at1.ok.h at1.ok.b]; rfl)) u43 u43 dZ (dH b2.kind.2.1) (by decide) (by show 2 * (_ + 1) * 128 ≤ _; omega) (by omega) f3 ?_
      intro acc' h4 n4 hn4 f4 l4 i4 o4
      simp only [fgr, bor, bR, w1, gE]
      have i4' : ∀ j, aL acc' = some j → n0 ≤ j := fun j q => by
        rcases i4 with w | ⟨w, _⟩
        · rw [w] at q; exact hi j q
        · rw [w] at q; injection q with q; omega
      have accl : ∀ j, aL acc = some j → j < n1 := fun j q => ha1.dJ f1 q
      have keep4 : ∀ j, j < n2 + 1 → aL acc ≠ some j → h4 j = H3 j := fun j hj hn => o4 j hj hn
      have hne : ∀ j, j < n2 + 1 → aL acc ≠ some j → aL acc' ≠ some j := fun j hj hn q => by
        rcases i4 with w | ⟨w, _⟩
        · rw [w] at q; exact hn q
        · rw [w] at q; injection q with q; omega
      have hV4 := hV1.mono (h' := h4) (D' := fun j => n0 ≤ j ∧ j < n4 ∧ aL acc' ≠ some j) (fun j q => ⟨q.1, by omega, hne j (by omega) q.2.2⟩) (fun j q => by rw [keep4 j (by omega) q.2.2, o13 j q.2.1])
      have an2 : ∀ j, n1 ≤ j → aL acc ≠ some j := fun j hj q => by have := accl j q; omega
      have hV5 := hV4.wI (b2.aO (h' := h4) fun j q => by rw [keep4 j (by have := i2 j q; omega) (an2 j (i2 j q).1), o3 j (by have := i2 j q; omega)]) at1.ok (fun j q => ⟨by have := i2 j q; omega, by have := i2 j q; omega, hne j (by have := i2 j q; omega) (an2 j (i2 j q).1)⟩) m2
      have hfl : (vs.take (i + 1)).filter is = (vs.take i).filter is ++ [vs[i]'(by omega)] := by rw [htk, List.filter_append]; simp [hq]
      have ho4 : Old h0 h4 n0 := fun j hj => by rw [keep4 j (by omega) (fun q => by have := hi j q; omega), o13 j (by omega)]; exact ho1 j hj
      exact ih (i + 1) h4 n4 acc' _ _ _ _ _ (by omega) (by rw [hfl, List.length_append]; exact l4) (by rw [hfl]; exact hV5) i4' (by omega) f4 ho4
def VL (h : Hp) (n0 n : Nat) (v : aA) (vs : List Ver) : Prop := ∃ cells, Lst h 31 70 v vs.length cells ∧ Vm h (fun j => n0 ≤ j ∧ j < n ∧ aL v ≠ some j) cells vs ∧ ∀ j, aL v = some j → n0 ≤ j ∧ j < n
theorem f74 (F : aA) (is : Ver → Bool) (v : aA) (cnt : Nat) (xs : List aA) (vs : List Ver) (D : Nat → Prop) (h : Hp) (n : Nat) (hF : IsF F is h n) (hc : cnt ≤ 1000000) (hv : Rds h 1 v cnt xs) (hvn : ∀ j, aL v = some j → j < n) (hp : Ps h D xs vs) (hD : ∀ j, D j → j < n) (hsl : ∀ v ∈ vs, v.aE.length ≤ 1000000) (hf : bI h n) :
    Wp (bO env (aX env) 74 [v, F]) h n fun v' h' n' => VL h' n n' v' (vs.filter is) ∧ Old h h' n := by
  refine bG ah2 Z6 ?_
  simp only [QW, Try.f74, Option.getD_some, List.replicate, fgr, builtin, Nat.reduceAdd, Nat.reduceSub, hv.cP u95, gE]
  refine PL _ _ F is v cnt xs vs D h n hF hc hv hvn hp hD hsl ?_ cnt 0 h n .aT [] _ _ _ _ (by omega) (by rw [List.take_zero]; exact .nil) (by rw [List.take_zero]; exact Vm.nil _ _) (fun j q => by cases q) (Nat.le_refl _) hf (Old.refl _ _)
  intro h1 n1 acc cells x4 x7 x11 x16 hl hV hi hn hf1 ho
  simp only [fgr, gE]
  exact ⟨⟨cells, hl, hV, fun j q => ⟨hi j q, hl.dJ hf1 q⟩⟩, ho⟩
theorem f83 (id t : Nat) (sv : aA) (v : Ver) (z : Int) (h : Hp) (n : Nat) (ha : AtN h n id sv v) (ht : Row h t [.int .i64 z]) (hf : bI h n) :
    Wp (bO env (aX env) 83 [.ptr id 0, .ptr t 0]) h n fun v' h' n' => v' = .bool (dC v z) ∧ Old h h' n := by
  refine bG ag3 YX ?_
  simp only [QN, Try.f83, Option.getD_some, List.replicate, fgr, Nat.reduceAdd, Nat.reduceSub, gE]
  refine bY ⟨rfl, ?_⟩
  simp only [Nat.reduceAdd, gE]
  rw [aR (dY ha.row ha.ok)]
  simp only [Nat.reduceAdd, gE]
  rw [aR (ht.one (off := 0) rfl ti3 rfl)]
  simp only [hkr, Nat.reduceAdd, gE]
  refine cK hf (f82 v sv ha.ok z h n hf) fun v5 h5 n5 r5 w5 hn5 f5 ⟨e1, o1⟩ => ?_
  subst e1
  simp only [fgr, Nat.reduceAdd, gE]
  refine ⟨(by (try simp (disch := first | assumption | omega) only [dX, gF]); repeat' (first | rfl | exact (Bool.or_eq_true _ _).mpr (.inr rfl) | refine (Bool.and_eq_true _ _).mpr ⟨?_, ?_⟩)), ?_⟩
  exact o1
theorem FG (h0 : Hp) (n0 : Nat) : IsF (.fn (.func 75) [] []) (fun _ => true) h0 n0 := by
  intro h n id sv v hn ho ha hf
  simp only [hkr, bN, List.nil_append, List.append_nil]
  exact cG (f75 h n _) fun v' h' n' ⟨e1, e2, e3⟩ => ⟨e1, by subst e2; exact Old.refl _ _⟩
theorem MB (t : Nat) (z : Int) (h0 : Hp) (n0 : Nat) (ht : Row h0 t [.int .i64 z]) (htn : t < n0) : IsF (.fn (.func 83) [] [.ptr t 0]) (fun v => dC v z) h0 n0 := by
  intro h n id sv v hn ho ha hf
  simp only [hkr, bN, List.cons_append, List.nil_append]
  exact f83 id t sv v z h n ha (ht.aO (ho t htn)) hf
theorem f32 (x : Nat) (L : List Ver) (D M : Nat → Prop) (h : Hp) (n : Nat) (hs : Ix h n D M x L) (hc : L.length ≤ 1000000) (hf : bI h n) :
    Wp (bO env (aX env) 32 [.ptr x 0]) h n fun v' h' n' => VL h' n n' v' L ∧ Old h h' n := by
  obtain ⟨⟨S, s0, rS, perm⟩, rL, ok⟩ := hs
  obtain ⟨vl, vs, xl, xs, iv, mx, ml, ms, mn⟩ := s0
  refine bG aj9 ZX ?_
  simp only [RS, Try.f32, Option.getD_some, List.replicate, fgr, hkr, Nat.reduceSub, gE]
  refine eU (f73 x _ true h n iv.row rfl) ?_
  simp only [tyr, fgr, aM, gE]
  rw [aF (iv.row.one (off := 1) rfl mK rfl)]
  simp only [hkr, gE]
  refine bD hf (f74 _ _ vl L.length xl L D h n (FG h n) hc iv.l.rds (fun j q => (mn j (ml j q)).1) iv.lp iv.dn (fun v hv => (ok v hv).2) hf) fun v1 h1 n1 hn1 f1 ⟨l1, o1⟩ => ?_
  simp only [fgr, gE]
  rw [show L.filter (fun _ => true) = L from List.filter_eq_self.2 fun _ _ => rfl] at l1
  exact ⟨l1, o1⟩
theorem f39 (x : Nat) (z : Int) (L : List Ver) (D M : Nat → Prop) (h : Hp) (n : Nat) (hs : Ix h n D M x L) (hc : L.length ≤ 1000000) (hf : bI h n) :
    Wp (bO env (aX env) 39 [.ptr x 0, .int .i64 z]) h n fun v' h' n' => VL h' n n' v' (L.filter fun v => dC v z) ∧ Old h h' n := by
  obtain ⟨⟨S, s0, rS, perm⟩, rL, ok⟩ := hs
  obtain ⟨vl, vs, xl, xs, iv, mx, ml, ms, mn⟩ := s0
  refine bG aj2 ZQ ?_
  simp only [RH, Try.f39, Option.getD_some, List.replicate, Nat.reduceAdd, Nat.reduceSub, gE]
  refine cL (v := .int .i64 z) ti3 rfl hf fun H1 r1 o1 f1 => ?_
  have old1 : Old h H1 n := fun j hj => o1 j (by omega)
  simp only [fgr, hkr, gE]
  have row1 := iv.row.aO (old1 x iv.xn)
  refine eU (f73 x _ true H1 (n + 1) row1 rfl) ?_
  simp only [tyr, fgr, aM, gE]
  rw [aF (row1.one (off := 1) rfl mK rfl)]
  simp only [hkr, gE]
  refine bD f1 (f74 _ _ vl L.length xl L D H1 (n + 1) (MB n z H1 (n + 1) r1 (by omega)) hc (iv.l.aO (fun j q => old1 j (mn j (ml j q)).1)).rds (fun j q => by have := (mn j (ml j q)).1; omega) (iv.lp.mono (fun j q => q) (fun j q => old1 j (iv.dn j q))) (fun j q => by have := iv.dn j q; omega) (fun v hv => (ok v hv).2) f1) fun v2 h2 n2 hn2 f2 ⟨l2, o2⟩ => ?_
  simp only [fgr, gE]
  obtain ⟨cells, a1, a2, a3⟩ := l2
  exact ⟨⟨cells, a1, a2.mono (fun j q => ⟨by have := q.1; omega, q.2⟩) (fun j q => rfl), fun j q => by have := a3 j q; omega⟩, fun j hj => by rw [o2 j (by omega), old1 j hj]⟩
theorem f50 (x : Nat) (L : List Ver) (D M : Nat → Prop) (h : Hp) (n : Nat) (hs : Ix h n D M x L) : Wp (bO env (aX env) 50 [.ptr x 0]) h n fun v' h' n' => v' = .int .i64 (L.length : Nat) ∧ h' = h ∧ n' = n := by
  obtain ⟨⟨S, s0, rS, perm⟩, rL, ok⟩ := hs
  obtain ⟨vl, vs, xl, xs, iv, mx, ml, ms, mn⟩ := s0
  refine bG ai1 ZF ?_
  simp only [R4, Try.f50, Option.getD_some, List.replicate, fgr, hkr, Nat.reduceSub, gE]
  refine eU (f73 x _ true h n iv.row rfl) ?_
  simp only [tyr, fgr, aM, gE]
  rw [aF (iv.row.one (off := 1) rfl mK rfl)]
  simp only [fgr, builtin, iv.l.rds.cP u95, gE]
def yes (b : Bool) (v : aA) : Prop := v = .gG b ∨ v = .bool b
theorem M3 (Q : dM) (ks : List Kf) (Y : aA) (v : aA) (cnt p : Nat) (xs : List aA) (vs : List Ver) (D : Nat → Prop) (P : Nat → Hp → Nat → Prop) (R : Hp → Nat → Prop) (y1 y2 : aA) (hc : cnt ≤ 1000000) (hpc : p ≤ cnt)
    (hP : ∀ k h n, P k h n → Rds h 1 v cnt xs ∧ Ps h D xs vs ∧ bI h n)
    (hY : ∀ (k : Nat) (hk : k < vs.length) (id : Nat) (sv : aA) (h : Hp) (n : Nat), p ≤ k → P k h n → xs[k]? = some (.ptr id 0) → At h id sv vs[k] → D id → (∀ j, aL sv = some j → D j) → Wp (nF env (aX env) Y [.ptr id 0]) h n fun v' h' n' => (yes true v' ∧ P (k + 1) h' n') ∨ (yes false v' ∧ R h' n'))
    (hE : ∀ (h : Hp) (n : Nat) (tm : List aA), P cnt h n → dR env 109 none Q ks (.exit 0) tm h n)
    (hR : ∀ (h : Hp) (n : Nat) (tm : List aA), R h n → dR env 109 none Q ks .ret tm h n) :
    ∀ (m i : Nat) (h : Hp) (n : Nat) (x4 x7 x22 x28 : aA), p + i + m = cnt → P (p + i) h n → Run env 109 none Q (.loop yY) ks (Y :: y1 :: y2 :: aA.aB :: x4 :: aA.aB :: aA.aB :: x7 :: aA.aB :: aA.aB :: aA.aB :: aA.aB :: aA.aB :: aA.aB :: aA.aB :: aA.aB :: aA.aB :: aA.aB :: aA.aB :: kS p cnt v :: .int .i64 (cnt - p : Nat) :: .int .i64 (i : Nat) :: x22 :: aA.aB :: aA.aB :: aA.aB :: aA.aB :: aA.aB :: x28 :: aA.aB :: []) h n := by
  intro m
  induction m with
  | zero =>
    intro i h n x4 x7 x22 x28 hm hp
    rw [bP]
    have hcc : ¬ (((i : Nat) : Int) < ((cnt - p : Nat) : Int)) := by omega
    simp only [yY, bC, Try.f109, Option.getD_some, fgr, bor, List.getD_cons_zero, hcc, gE]
    exact hE h n _ (by rw [show cnt = p + i by omega]; exact hp)
  | succ m ih =>
    intro i h n x4 x7 x22 x28 hm hp
    rw [bP]
    obtain ⟨hv, hps, hf⟩ := hP _ _ _ hp
    have hcl : cnt = vs.length := by have := hv.length; have := hps.len; omega
    have hil : i < cnt - p := by omega
    have hcc : (((i : Nat) : Int) < ((cnt - p : Nat) : Int)) := by omega
    have hsub := hv.sub (lo := p) (hi := cnt) hpc (Nat.le_refl _)
    obtain ⟨id, sv, hx, a, d1, d2⟩ := hps.get (j := p + i) (by omega)
    have hidx := hsub.idx (E := env) u95 nJ (kk := .i64) (z := ((i : Nat) : Int)) (j := i) rfl hil (h' := h) (n' := n)
    have hld := hsub.load (E := env) iI rfl (k := i * 1) (n := n) (x := .ptr id 0) (by
      rw [Nat.mul_one, Nat.mul_one, Nat.mul_one, List.getElem?_take, if_pos hil, List.getElem?_drop]; exact hx)
    have w1 : IntKind.i64.wrap (((i : Nat) : Int) + 1) = ((i + 1 : Nat) : Int) := by rw [w64 (by omega) (by omega)]; omega
    simp only [yY, bC, Try.f109, Option.getD_some, fgr, bor, List.getD_cons_zero, hcc, gE]
    rw [aF hidx]
    simp only [gE]
    rw [aF hld]
    simp only [fgr, gE]
    refine bD hf (hY (p + i) (by omega) id sv h n (by omega) hp hx a d1 d2) fun v1 h1 n1 hn1 f1 hh => ?_
    rcases hh with ⟨e1 | e1, hp1⟩ | ⟨e1 | e1, hr1⟩
    · subst e1
      simp only [fgr, bor, bR, unOp, w1, gE]
      exact ih (i + 1) h1 n1 _ _ _ _ (by omega) hp1
    · subst e1
      simp only [fgr, bor, bR, unOp, w1, gE]
      exact ih (i + 1) h1 n1 _ _ _ _ (by omega) hp1
    · subst e1
      simp only [fgr, unOp, gE]
      exact hR h1 n1 _ hr1
    · subst e1
      simp only [fgr, unOp, gE]
      exact hR h1 n1 _ hr1
theorem f109 (o : Bool) (Y : aA) (b1 b2 x off : Nat) (cs : List aA) (v : aA) (t : Nat) (st : aA) (tv : Ver) (cnt : Nat) (xs : List aA) (vs : List Ver) (D : Nat → Prop) (P : Nat → Hp → Nat → Prop) (R : Hp → Nat → Prop) (h : Hp) (n : Nat)
    (hb1 : Row h b1 [.ptr x off]) (hb2 : Row h b2 [.ptr t 0]) (hr : Row h x cs) (hc0 : cs[off]? = some v) (hc1 : cs[off + 1]? = some (fo o)) (hc : cnt ≤ 1000000) (hv : Rds h 1 v cnt xs) (hro : BQ v) (hvn : ∀ j, aL v = some j → j < n) (hp : Ps h D xs vs) (hD : ∀ j, D j → j < n) (ht : AtN h n t st tv) (hmono : GB o vs tv) (hf : bI h n)
    (hn1 : b1 < n) (hxn : x < n)
    (hP : ∀ k h n, P k h n → Rds h 1 v cnt xs ∧ Ps h D xs vs ∧ bI h n)
    (hS : ∀ p h' n', Pos o vs tv p → n ≤ n' → bI h' n' → Old h h' n → P p h' n')
    (hY : ∀ (p k : Nat) (hk : k < vs.length) (id : Nat) (sv : aA) (h : Hp) (n : Nat), Pos o vs tv p → p ≤ k → P k h n → xs[k]? = some (.ptr id 0) → At h id sv vs[k] → D id → (∀ j, aL sv = some j → D j) → Wp (nF env (aX env) Y [.ptr id 0]) h n fun v' h' n' => (yes true v' ∧ P (k + 1) h' n') ∨ (yes false v' ∧ R h' n')) :
    Wp (bO env (aX env) 109 [Y, .ptr b1 0, .ptr b2 0]) h n fun v' h' n' => v' = .tup [] ∧ (P cnt h' n' ∨ R h' n') := by
  have hcl : cnt = vs.length := by have := hv.length; have := hp.len; omega
  refine bG VP UO ?_
  simp only [J7, Try.f109, Option.getD_some, List.replicate, Nat.reduceAdd, Nat.reduceSub, gE]
  rw [aF (hb1.one (off := 0) rfl GK rfl)]
  simp only [gE]
  rw [aF (hb2.one (off := 0) rfl iI rfl)]
  simp only [hkr, gE]
  refine bD hf (f103 o x off cs v t st tv cnt xs vs D h n hr hc0 hc1 (by omega) hv hvn hp hD ht hmono hf) fun v1 h1 n1 hn1' f1 ⟨p, hpos, e1, o1⟩ => ?_
  subst e1
  have hpc : p ≤ cnt := by have := hpos.le; omega
  have hv1 := hv.aO (h' := h1) (fun j q => o1 j (hvn j q))
  simp only [fgr, gE]
  rw [aF ((hb1.aO (o1 b1 hn1)).one (off := 0) rfl GK rfl)]
  simp only [tyr, aM, gE]
  rw [aF ((hr.aO (o1 x hxn)).one hc0 mK rfl)]
  simp only [opt, gE]
  rw [aF (hv1.qQ u95 nJ rfl hpc)]
  have hsub := hv1.sub (lo := p) (hi := cnt) hpc (Nat.le_refl _)
  simp only [fgr, builtin, hsub.cP u95, gE]
  refine M3 _ _ Y v cnt p xs vs D P R _ _ hc hpc hP (fun k hk id sv h n => hY p k hk id sv h n hpos) ?_ ?_ (cnt - p) 0 h1 n1 _ _ _ _ (by omega) (hS p h1 n1 hpos (by omega) f1 o1)
  · intro h2 n2 tm hp2
    simp only [cC, true_and]
    exact .inl hp2
  · intro h2 n2 tm hr2
    simp only [cC, true_and]
    exact .inr hr2
theorem f88 (x off t : Nat) (h : Hp) (n : Nat) : Wp (bO env (aX env) 88 [.ptr x off, .ptr t 0]) h n fun v' h' n' => v' = .fn (.func 109) [] [.ptr n 0, .ptr (n + 1) 0] ∧ h' = upd (upd h n (some (.row (.l [.ptr x off]) 156))) (n + 1) (some (.row (.l [.ptr t 0]) 128)) ∧ n' = n + 1 + 1 := by
  refine bG af8 YS ?_
  simp only [QI, Try.f88, Option.getD_some, List.replicate, tyr, fgr, cel, alloc, newRow, Nat.reduceAdd, Nat.reduceSub, gE]
theorem f81 (x : Nat) (aG : List UInt8) (pn : Int) (h : Hp) (n : Nat) : Wp (bO env (aX env) 81 [.ptr x 0, .agg (aQ aG pn)]) h n fun v' h' n' => v' = .fn (.func 106) [] [.ptr n 0, .ptr (n + 1) 0] ∧ h' = upd (upd h n (some (.row (.l [.ptr x 0]) 56))) (n + 1) (some (.row (.l (aQ aG pn)) 28)) ∧ n' = n + 1 + 1 := by
  refine bG ag5 YZ ?_
  simp only [QP, Try.f81, Option.getD_some, List.replicate, tyr, fgr, cel, alloc, newRow, Nat.reduceAdd, Nat.reduceSub, gE]
theorem mG {α : Type} {f : α → M Bool} {g : α → Bool} : ∀ (l : List α), (∀ x ∈ l, f x = M.pure (g x)) → vY f l = M.pure (l.all g)
  | [], _ => rfl
  | x :: l, h => by
    simp only [vY, h x (List.mem_cons_self), aI, mG l fun y hy => h y (List.mem_cons_of_mem _ hy), List.all_cons]
theorem xB {a : List UInt8} {i : Nat} (hi : i < a.length) : part env 5 (a.map u8) i = M.pure (u8 a[i]) := by
  simp only [part, ti5, aI, eR, List.getElem?_map, List.getElem?_eq_getElem hi, Option.map_some, eE]
theorem eq5 (d : Nat) (x y : UInt8) : equal env (d + 1) 5 (u8 x) (u8 y) = M.pure (x == y) := by
  have : ((x.toNat : Int) == (y.toNat : Int)) = (x == y) := by
    by_cases e : x = y
    · subst e; simp
    · have h2 : ¬ ((x.toNat : Int) = (y.toNat : Int)) := fun q => e (UInt8.toNat_inj.1 (by omega))
      rw [beq_eq_false_iff_ne.2 h2, beq_eq_false_iff_ne.2 e]
  simp only [equal, u8, und, ti5, aI, decide_true]
  rw [this]
theorem MO (d : Nat) (a b : List UInt8) (ha : a.length = 32) (hb : b.length = 32) : equal env (d + 1 + 1) 25 (.agg (a.map u8)) (.agg (b.map u8)) = M.pure (decide (a = b)) := by
  have hq : zE env env.eqs 25 = true := rfl
  have h1 : equal env (d + 1 + 1) 25 (.agg (a.map u8)) (.agg (b.map u8)) = vY (fun i => (part env 5 (a.map u8) (i * 1)).bind fun x => (part env 5 (b.map u8) (i * 1)).bind fun y => equal env (d + 1) 5 x y) (List.range 32) := by
    rw [equal]
    · simp only [und, nH, aI, hq, dV, sizeOf, ti5]
    all_goals (intro k n h; cases h)
  rw [h1, mG (g := fun i => (a.getD i 0 == b.getD i 0)) _ fun i hi => ?_]
  · congr 1
    rw [Bool.eq_iff_iff, List.all_eq_true, decide_eq_true_iff]
    constructor
    · intro h
      apply List.ext_getElem (by omega)
      intro i h1 h2
      have := h i (List.mem_range.2 (by omega))
      rw [List.getD_eq_getElem?_getD, List.getD_eq_getElem?_getD, List.getElem?_eq_getElem h1, List.getElem?_eq_getElem h2] at this
      simpa using this
    · rintro rfl i _
      simp
  · have hi := List.mem_range.1 hi
    rw [Nat.mul_one, xB (by omega), aI, xB (by omega), aI, eq5]
    rw [List.getD_eq_getElem?_getD, List.getD_eq_getElem?_getD, List.getElem?_eq_getElem (by omega), List.getElem?_eq_getElem (by omega)]
    rfl
theorem RY (d : Nat) (h1 h2 : List UInt8) (n1 n2 : Int) (l1 : h1.length = 32) (l2 : h2.length = 32) : equal env (d + 1 + 1 + 1) 28 (.agg (aQ h1 n1)) (.agg (aQ h2 n2)) = M.pure (decide (h1 = h2) && (n1 == n2)) := by
  have hq : zE env env.eqs 28 = true := rfl
  have p0 : ∀ (hh : List UInt8) (nn : Int), hh.length = 32 → part env 25 (aQ hh nn) 0 = M.pure (.agg (hh.map u8)) := fun hh nn hl => by
    simp only [part, nH, aI, eR, List.drop_zero]
    rw [show (aQ hh nn).take 32 = hh.map u8 by unfold aQ; rw [List.take_append_of_le_length (by simp [hl]), List.take_of_length_le (by simp [hl])]]
  have p1 : ∀ (hh : List UInt8) (nn : Int), hh.length = 32 → part env 26 (aQ hh nn) 32 = M.pure (.int .u32 nn) := fun hh nn hl => by
    simp only [part, pU, aI, eR, iV hl, eE]
  have p2 : equal env (d + 1 + 1) 26 (.int .u32 n1) (.int .u32 n2) = M.pure (n1 == n2) := by
    simp only [equal, und, pU, aI, decide_true]
  rw [equal]
  · simp only [und, gQ, aI, hq, dV]
    simp only [vY, show decide ("Tx" = "_") = false from rfl, show decide ("N" = "_") = false from rfl, p0 h1 n1 l1, p0 h2 n2 l2, p1 h1 n1 l1, p1 h2 n2 l2, aI, MO d h1 h2 l1 l2, p2, Bool.and_true]
  all_goals (intro k n h; cases h)
theorem TW (h1 h2 : List UInt8) (n1 n2 : Int) (l1 : h1.length = 32) (l2 : h2.length = 32) : binOp env .neq 28 (.agg (aQ h1 n1)) (.agg (aQ h2 n2)) = M.pure (.bool (!(decide (h1 = h2) && (n1 == n2)))) := by
  have e := RY 97 h1 h2 n1 n2 l1 l2
  show aV env .neq 28 (.agg (aQ h1 n1)) (.agg (aQ h2 n2)) = _
  unfold aV
  simp only
  unfold bF
  rw [e, aI]
noncomputable def zO (tm : List aA) : lU := { state := .ready, pending := none, fn := 106, tmps := tm, params := [14], assign := DT, body := DS }
def same (aG : List UInt8) (pn : Int) (v : Ver) : Bool := decide (v.aG = aG) && (v.pn == pn)
def am4 (aG : List UInt8) (pn : Int) (L : List Ver) (P : Nat → Nat → Hp → Nat → Prop) (R : Nat → Hp → Nat → Prop) (n0 : Nat) (h : Hp) (n : Nat) : Prop :=
  ∃ nS, n0 ≤ nS ∧ ((∃ k, pos false L (key aG pn 0) ≤ k ∧ P nS k h n ∧ ∀ hk : k < L.length, same aG pn L[k] = false) ∨ R nS h n)
set_option maxHeartbeats 4000000 in
theorem f106 (Y : aA) (c1 c2 x : Nat) (aG : List UInt8) (pn : Int) (hl : aG.length = 32) (L S : List Ver) (D : Nat → Prop) (P : Nat → Nat → Hp → Nat → Prop) (R : Nat → Hp → Nat → Prop) (vl vs : aA) (xl xs : List aA) (h : Hp) (n : Nat)
    (iv : IxV h n D x vl vs xl xs L S) (mn : ∀ j, aL vl = some j → j < n) (rL : dW false L) (hc : L.length ≤ 1000000)
    (hY1 : Y.cells = [Y] ∧ bK Y = true ∧ eI Y = false) (hc1 : Row h c1 [.ptr x 0]) (hc2 : Row h c2 (aQ aG pn)) (hn1 : c1 < n) (hn2 : c2 < n) (hf : bI h n)
    (hP : ∀ nS k h n, P nS k h n → Rds h 1 vl L.length xl ∧ Ps h D xl L ∧ bI h n)
    (hS : ∀ h' nS, n ≤ nS → bI h' nS → Old h h' n → P nS (pos false L (key aG pn 0)) h' nS)
    (hst : ∀ nS k h1 n1 i b, n ≤ i → i < nS → P nS k h1 n1 → P nS k (upd h1 i b) n1)
    (hsr : ∀ nS h1 n1 i b, n ≤ i → i < nS → R nS h1 n1 → R nS (upd h1 i b) n1)
    (hY : ∀ (nS k : Nat) (hk : k < L.length) (id : Nat) (sv : aA) (h1 : Hp) (n1 : Nat), n ≤ nS → pos false L (key aG pn 0) ≤ k → P nS k h1 n1 → At h1 id sv L[k] → D id → (∀ j, aL sv = some j → D j) → same aG pn L[k] = true →
      Wp (nF env (aX env) Y [.ptr id 0]) h1 n1 fun v' h' n' => ((yes true v' ∧ P nS (k + 1) h' n') ∨ (yes false v' ∧ R nS h' n')) ∧ (∀ j, n ≤ j → j < nS → h' j = h1 j) ∧ h' c2 = h1 c2) :
    Wp (bO env (aX env) 106 [Y, .ptr c1 0, .ptr c2 0]) h n fun v' h' n' => v' = .tup [] ∧ am4 aG pn L P R n h' n' := by
  refine bG VS UR ?_
  simp only [JA, Try.f106, Option.getD_some, List.replicate, Nat.reduceAdd, Nat.reduceSub, gE]
  refine cL (v := Y) GL hY1.2.2 hf fun H1 r1 o1 f1 => ?_
  rw [hY1.1] at r1
  have old1 : Old h H1 n := fun j hj => o1 j (by omega)
  simp only [fgr, gE]
  rw [aF ((hc1.aO (old1 c1 hn1)).one (off := 0) rfl EO rfl)]
  simp only [hkr, gE]
  refine eU (f73 x _ true H1 (n + 1) (iv.row.aO (old1 x iv.xn)) rfl) ?_
  simp only [cC, fgr, opd, cE, put, nth, aN, Bool.not_true]
  refine bY ⟨rfl, ?_⟩
  simp only [gE]
  rw [aR ((hc1.aO (old1 c1 hn1)).one (off := 0) rfl EO rfl)]
  simp only [tyr, aM, Nat.reduceAdd, gE]
  have hld : Rd (load env 28 (.ptr c2 0)) H1 (n + 1) [c2] (.agg (aQ aG pn)) := Row.j9 (hc2.aO (old1 c2 hn2)) gQ rfl (c9 hl)
  rw [aR hld]
  have b31 : build env 31 [(0, .agg (aQ aG pn))] = M.pure (.agg (aH (key aG pn 0) .aT)) := by
    have h1 : (aA.agg (aQ aG pn)).cells.length = 33 := c9 hl
    have e1 : ∀ pl : Nat → Option (Nat × Nat), pl 0 = some (0, 33) → fill pl fA.i.zero.cells [(0, .agg (aQ aG pn))] = some (aH (key aG pn 0) .aT) := fun pl p0 => by
      rw [z31, oZ p0 rfl rfl h1 rfl, List.nil_append]
      simp only [fill]
      congr 1
    have e2 : build env 31 [(0, .agg (aQ aG pn))] = (eE "build" (fill ([(0, 33), (33, 1), (34, 1), (35, 1), (36, 1), (37, 1), (38, 32)][·]?) fA.i.zero.cells [(0, .agg (aQ aG pn))])).bind fun cs => M.pure (.agg cs) := rfl
    rw [e2, e1 _ rfl]
    rfl
  simp only [cel, alloc, Nat.reduceAdd, b31, gE]
  refine lE (xs := aH (key aG pn 0) .aT) dZ f1 fun H2 r2 o2 f2 => ?_
  have old2 : Old h H2 n := fun j hj => by rw [o2 j (by omega), old1 j hj]
  simp only [hkr, Nat.reduceAdd, gE]
  refine cK f2 (f88 x 1 (n + 1) H2 (n + 1 + 1)) fun v3 h3 n3 r3 w3 hn3 f3 ⟨e3, eh3, en3⟩ => ?_
  subst e3; subst en3
  simp only [j5, cC, fgr, cE, put, aN, Nat.reduceAdd]
  refine ⟨(by (try simp (disch := first | assumption | omega) only [dX, gF]); repeat' (first | rfl | exact (Bool.or_eq_true _ _).mpr (.inr rfl) | refine (Bool.and_eq_true _ _).mpr ⟨?_, ?_⟩)), ?_⟩
  have g0 : Row h3 n [Y] := by rw [eh3]; exact ((r1.aO (o2 n (by omega))).upd (by omega)).upd (by omega)
  have g1 : h3 (n + 1) = some (.row (.l (aH (key aG pn 0) .aT)) 31) := by rw [eh3, aP _ _ (by omega), aP _ _ (by omega)]; exact r2
  have g2 : Row h3 (n + 1 + 1) [.ptr x 1] := by rw [eh3]; exact (Row.new _ _ _ _).upd (by omega)
  have g3 : Row h3 (n + 1 + 1 + 1) [.ptr (n + 1) 0] := by rw [eh3]; exact Row.new _ _ _ _
  have old3 : Old h h3 n := fun j hj => by rw [eh3, aP _ _ (by omega), aP _ _ (by omega), old2 j hj]
  clear eh3
  refine oT (g := 109) (first := []) (cap := [.ptr (n + 1 + 1) 0, .ptr (n + 1 + 1 + 1) 0]) rfl rfl ?_
  let TM : List aA := (Y :: .ptr c1 0 :: .ptr c2 0 :: .ptr n 0 :: undef :: aA.aB :: .bool false :: aA.aB :: aA.aB :: aA.aB :: aA.aB :: aA.aB :: aA.aB :: .fn (.func 109) [] [.ptr (n + 1 + 1) 0, .ptr (n + 1 + 1 + 1) 0] :: undef :: aA.aB :: aA.aB :: aA.aB :: aA.aB :: aA.aB :: aA.aB :: aA.aB :: aA.aB :: aA.aB :: aA.aB :: aA.aB :: undef :: [])
  obtain ⟨H4, hH4⟩ : ∃ H4, H4 = upd h3 (n + 1 + 1 + 1 + 1) (some (Blk.loop (zO TM))) := ⟨_, rfl⟩
  have f4 : bI H4 (n + 1 + 1 + 1 + 1 + 1) := by rw [hH4]; exact f3.new
  have o4 : ∀ j, j ≠ n + 1 + 1 + 1 + 1 → H4 j = h3 j := fun j hj => by rw [hH4, aP _ _ hj]
  have r4 : H4 (n + 1 + 1 + 1 + 1) = some (Blk.loop (zO TM)) := by rw [hH4, bE]
  have old4 : Old h H4 n := fun j hj => by rw [o4 j (by omega), old3 j hj]
  show Wp (iC env (aX env) 109 [aA.fn (Fn.yield (n + 1 + 1 + 1 + 1)) [] [], aA.ptr (n + 1 + 1) 0, aA.ptr (n + 1 + 1 + 1) 0]) (upd h3 (n + 1 + 1 + 1 + 1) (some (Blk.loop (zO TM)))) (n + 1 + 1 + 1 + 1 + 1) _
  rw [NI, ← hH4]
  clear hH4
  have hl0 := iv.l.aO (h' := H4) (fun j q => old4 j (mn j q))
  have hp0 := iv.lp.mono (D' := D) (fun j q => q) (fun j q => old4 j (iv.dn j q))
  have kt : AtN H4 (n + 1 + 1 + 1 + 1 + 1) (n + 1) .aT (key aG pn 0) := ⟨⟨⟨_, (o4 (n + 1) (by omega)).trans g1⟩, .aT, IN hl⟩, by omega, fun j q => by cases q⟩
  have hro : BQ vl := by
    have q := iv.l
    generalize L.length = len at q
    cases q with
    | nil => trivial
    | zero => exact Nat.le_refl _
    | sl => trivial
  refine cG (f109 false (.fn (.yield (n + 1 + 1 + 1 + 1)) [] []) (n + 1 + 1) (n + 1 + 1 + 1) x 1 _ vl (n + 1) .aT (key aG pn 0) L.length xl L D
    (fun k h1 n1 => ∃ nS, n + 1 + 1 + 1 + 1 < nS ∧ P nS k h1 n1 ∧ h1 (n + 1 + 1 + 1 + 1) = some (.loop (zO TM)) ∧ Row h1 n [Y] ∧ Row h1 c2 (aQ aG pn))
    (fun h1 n1 => ∃ l nS, h1 (n + 1 + 1 + 1 + 1) = some (.loop l) ∧ l.state = .done ∧ l.pending = some .ret ∧ n + 1 + 1 + 1 + 1 < nS ∧ ((∃ k, pos false L (key aG pn 0) ≤ k ∧ P nS k h1 n1 ∧ ∀ hk : k < L.length, same aG pn L[k] = false) ∨ R nS h1 n1))
    H4 (n + 1 + 1 + 1 + 1 + 1) (g2.aO (o4 _ (by omega))) (g3.aO (o4 _ (by omega))) (iv.row.aO (old4 x iv.xn)) rfl rfl hc hl0.rds hro (fun j q => by have := mn j q; omega) hp0 (fun j q => by have := iv.dn j q; omega) kt (rL.mono _) f4 (by omega) (by have := iv.xn; omega) ?_ ?_ ?_) ?_
  · rintro k h1 n1 ⟨nS, _, hp, _⟩
    exact hP nS k h1 n1 hp
  · intro p h' n' hpos hn' hf' ho'
    have oo : Old h h' n := fun j hj => by rw [ho' j (by omega), old4 j hj]
    refine ⟨n', by omega, by rw [hpos.eq]; exact hS h' n' (by omega) hf' oo, (ho' _ (by omega)).trans r4, (g0.aO (o4 n (by omega))).aO (ho' n (by omega)), hc2.aO (oo c2 hn2)⟩
  · rintro p k hk id sv h1 n1 hpos hpk ⟨nS, hnS, hp, hlo, hrY, hrc⟩ hx a d1 d2
    obtain ⟨_, hps, hf1'⟩ := hP nS k h1 n1 hp
    refine qO hlo rfl rfl ?_
    simp only [DT, List.getD_cons_zero, mM, List.zip_cons_cons, List.zip_nil_left, zO, TM, dP, Try.f106, Option.getD_some, fgr, gE]
    refine ⟨_, hlo, rfl, ?_⟩
    have hidn : id < n := iv.dn id d1
    have hpk' : pos false L (key aG pn 0) ≤ k := by rw [← hpos.eq]; exact hpk
    obtain ⟨h2, hh2⟩ : ∃ h2, h2 = upd h1 (n + 1 + 1 + 1 + 1) (some (Blk.loop { zO TM with state := .busy })) := ⟨_, rfl⟩
    have ho2 : ∀ j, j ≠ n + 1 + 1 + 1 + 1 → h2 j = h1 j := fun j hj => by rw [hh2, aP _ _ hj]
    have hlo2 : h2 (n + 1 + 1 + 1 + 1) = some (.loop { zO TM with state := .busy }) := by rw [hh2, bE]
    have hp2 : P nS k h2 n1 := by rw [hh2]; exact hst nS k h1 n1 _ _ (by omega) hnS hp
    have a2 : At h2 id sv L[k] := a.aO (ho2 id (by omega)) (fun j q => ho2 j (by have := iv.dn j (d2 j q); omega))
    have hrY2 := hrY.aO (ho2 n (by omega))
    have hrc2 := hrc.aO (ho2 c2 (by omega))
    show Run env 106 _ _ _ _ _ (upd h1 (n + 1 + 1 + 1 + 1) (some (Blk.loop { zO TM with state := .busy }))) n1
    rw [← hh2]
    clear hh2
    obtain ⟨_, _, hf2⟩ := hP nS k h2 n1 hp2
    simp only [DS, List.getD_cons_zero, dP, Try.f106, Option.getD_some, cC, fgr, List.nil_append, List.append_nil]
    refine bY ⟨rfl, ?_⟩
    simp only [tyr, aM, Nat.reduceAdd, gE]
    rw [aR (fL a2.row a2.ok)]
    simp only [Nat.reduceAdd, gE]
    have hld2 : Rd (load env 28 (.ptr c2 0)) h2 n1 [c2] (.agg (aQ aG pn)) := Row.j9 hrc2 gQ rfl (c9 hl)
    rw [aR hld2]
    have hne := TW L[k].aG aG L[k].pn pn a2.ok.h hl
    cases hsm : same aG pn L[k] with
    | false =>
      have e1 : (decide (L[k].aG = aG) && (L[k].pn == pn)) = false := hsm
      rw [e1] at hne
      simp only [fgr, aY, Nat.reduceAdd, hne, gE]
      exact ⟨(by (try simp (disch := first | assumption | omega) only [dX, gF]); repeat' (first | rfl | exact (Bool.or_eq_true _ _).mpr (.inr rfl) | refine (Bool.and_eq_true _ _).mpr ⟨?_, ?_⟩)), _, hlo2, .inr ⟨.inl rfl, _, nS, bE _ _ _, rfl, rfl, hnS, .inl ⟨k, hpk', hst nS _ _ _ _ _ (by omega) hnS hp2, fun _ => hsm⟩⟩⟩
    | true =>
      have e1 : (decide (L[k].aG = aG) && (L[k].pn == pn)) = true := hsm
      rw [e1] at hne
      simp only [Nat.reduceAdd, hne, gE]
      rw [aR (hrY2.one (off := 0) rfl GL rfl)]
      simp only [Nat.reduceAdd, gE]
      refine cK hf2 (hY nS k hk id sv h2 n1 (by omega) hpk' hp2 a2 d1 d2 hsm) fun v6 h6 n6 r6 w6 hn6 f6 ⟨hres, hkeep, hkc⟩ => ?_
      have hlo6 : h6 (n + 1 + 1 + 1 + 1) = some (.loop { zO TM with state := .busy }) := (hkeep _ (by omega) hnS).trans hlo2
      rcases hres with ⟨e6 | e6, hp6⟩ | ⟨e6 | e6, hr6⟩
      · subst e6
        simp only [fgr, unOp, aY, Nat.reduceAdd, gE]
        exact ⟨(by (try simp (disch := first | assumption | omega) only [dX, gF]); repeat' (first | rfl | exact (Bool.or_eq_true _ _).mpr (.inr rfl) | refine (Bool.and_eq_true _ _).mpr ⟨?_, ?_⟩)), _, hlo6, .inl ⟨.inl rfl, nS, hnS, hst nS _ _ _ _ _ (by omega) hnS hp6, bE _ _ _, (hrY2.aO (hkeep n (Nat.le_refl _) (by omega))).upd (by omega), (hrc2.aO hkc).upd (by omega)⟩⟩
      · subst e6
        simp only [fgr, unOp, aY, Nat.reduceAdd, gE]
        exact ⟨(by (try simp (disch := first | assumption | omega) only [dX, gF]); repeat' (first | rfl | exact (Bool.or_eq_true _ _).mpr (.inr rfl) | refine (Bool.and_eq_true _ _).mpr ⟨?_, ?_⟩)), _, hlo6, .inl ⟨.inl rfl, nS, hnS, hst nS _ _ _ _ _ (by omega) hnS hp6, bE _ _ _, (hrY2.aO (hkeep n (Nat.le_refl _) (by omega))).upd (by omega), (hrc2.aO hkc).upd (by omega)⟩⟩
      · subst e6
        simp only [fgr, unOp, aY, Nat.reduceAdd, gE]
        exact ⟨(by (try simp (disch := first | assumption | omega) only [dX, gF]); repeat' (first | rfl | exact (Bool.or_eq_true _ _).mpr (.inr rfl) | refine (Bool.and_eq_true _ _).mpr ⟨?_, ?_⟩)), _, hlo6, .inr ⟨.inl rfl, _, nS, bE _ _ _, rfl, rfl, hnS, .inr (hsr nS _ _ _ _ (by omega) hnS hr6)⟩⟩
      · subst e6
        simp only [fgr, unOp, aY, Nat.reduceAdd, gE]
        exact ⟨(by (try simp (disch := first | assumption | omega) only [dX, gF]); repeat' (first | rfl | exact (Bool.or_eq_true _ _).mpr (.inr rfl) | refine (Bool.and_eq_true _ _).mpr ⟨?_, ?_⟩)), _, hlo6, .inr ⟨.inl rfl, _, nS, bE _ _ _, rfl, rfl, hnS, .inr (hsr nS _ _ _ _ (by omega) hnS hr6)⟩⟩
  · rintro v5 h5 n5 ⟨e5, hh⟩
    rcases hh with ⟨nS, hnS, hp, hlo, hrY, hrc⟩ | ⟨l, nS, hlo, hst1, hpe, hnS, hh⟩
    · refine ⟨_, hlo, (fun q => by cases q), .normal, rfl, ?_⟩
      simp only [cC, true_and]
      refine ⟨nS, by omega, .inl ⟨L.length, Nat.le_trans (List.countP_le_length) (Nat.le_refl _), hst nS _ _ _ _ _ (by omega) (by omega) hp, fun hk => absurd hk (Nat.lt_irrefl _)⟩⟩
    · refine ⟨_, hlo, (fun q => by rw [hst1] at q; cases q), .ret, by rw [hpe], ?_⟩
      simp only [cC, true_and]
      refine ⟨nS, by omega, ?_⟩
      rcases hh with ⟨k, hk1, hk2, hk3⟩ | hr
      · exact .inl ⟨k, hk1, hst nS _ _ _ _ _ (by omega) (by omega) hk2, hk3⟩
      · exact .inr (hsr nS _ _ _ _ (by omega) (by omega) hr)
noncomputable def L37 (tm : List aA) : lU := { state := .ready, pending := none, fn := 37, tmps := tm, params := [13], assign := HD, body := HA }
def fnd (L : List Ver) (p k : Nat) (z : Int) : Option Ver := (((L.take k).drop p).filter fun v => dC v z).getLast?
theorem UD (L : List Ver) (p : Nat) (z : Int) : fnd L p p z = none := by
  unfold fnd
  rw [List.drop_eq_nil_of_le (by rw [List.length_take]; omega)]; rfl
theorem NO {L : List Ver} {p k : Nat} (hp : p ≤ k) (hk : k < L.length) (z : Int) : fnd L p (k + 1) z = if dC L[k] z then some L[k] else fnd L p k z := by
  unfold fnd
  rw [List.take_add_one, List.getElem?_eq_getElem hk, List.drop_append_of_le_length (by rw [List.length_take]; omega), List.filter_append]
  by_cases c : dC L[k] z = true
  · rw [if_pos c]; simp [c]
  · rw [if_neg c]; simp [c]
theorem MK {L : List Ver} {p k : Nat} {z : Int} {w : Ver} (h : fnd L p k z = some w) : w ∈ L := by
  have := List.mem_of_getLast? h
  exact List.mem_of_mem_take (List.mem_of_mem_drop (List.mem_filter.1 this).1)
theorem WM : build env 31 [] = M.pure (.agg fA.i.zero.cells) := rfl
def SL (H : Hp) (D : Nat → Prop) (c : aA) (o : Option Ver) : Prop := (c = .fC ∧ o = none) ∨ ∃ id sv w, c = .ptr id 0 ∧ o = some w ∧ At H id sv w ∧ D id ∧ ∀ j, aL sv = some j → D j
structure P37 (H6 : Hp) (n : Nat) (D : Nat → Prop) (L : List Ver) (aG : List UInt8) (pn z : Int) (lo : lU) (nS k : Nat) (h1 : Hp) (n1 : Nat) : Prop where
  fr : bI h1 n1
  ns : nS ≤ n1
  kp : ∀ j, j < n + 1 + 1 + 1 + 1 + 1 + 1 + 1 → j ≠ n + 1 + 1 + 1 → j ≠ n + 1 + 1 + 1 + 1 + 1 + 1 → h1 j = H6 j
  lp : h1 (n + 1 + 1 + 1 + 1 + 1 + 1) = some (.loop lo)
  cl : ∃ c, h1 (n + 1 + 1 + 1) = some (.row (.l [c]) 128) ∧ SL H6 D c (fnd L (pos false L (key aG pn 0)) k z)
  sm : ∀ i (hi : i < L.length), pos false L (key aG pn 0) ≤ i → i < k → same aG pn L[i] = true
end Go.Am.Ytlgebaofkolkoaa
set_option linter.unusedSimpArgs false
set_option linter.unusedVariables false
set_option linter.defProp false
set_option maxRecDepth 10000
namespace Go.Am.Ytlgebaofkolkoaa
open Go Go.Am Go.Proofs
set_option maxHeartbeats 4000000 in
theorem f37 (x : Nat) (aG : List UInt8) (pn z : Int) (hl : aG.length = 32) (L : List Ver) (D M : Nat → Prop) (h : Hp) (n : Nat) (hs : Ix h n D M x L) (hc : L.length ≤ 1000000) (hf : bI h n) :
    Wp (bO env (aX env) 37 [.ptr x 0, .agg (aQ aG pn), .int .i64 z]) h n fun v' h' n' => Old h h' n ∧ ∃ k, pos false L (key aG pn 0) ≤ k ∧ (∀ i (hi : i < L.length), pos false L (key aG pn 0) ≤ i → i < k → same aG pn L[i] = true) ∧ (∀ hk : k < L.length, same aG pn L[k] = false) ∧
      ((fnd L (pos false L (key aG pn 0)) k z = none ∧ v' = .tup [.agg fA.i.zero.cells, .bool false]) ∨ ∃ w s', fnd L (pos false L (key aG pn 0)) k z = some w ∧ v' = .tup [.agg (aH w s'), .bool true] ∧ w ∈ L ∧ Bytes h' s' w.aE ∧ (∀ j, aL s' = some j → n ≤ j ∧ j < n') ∧ nW s' = true) := by
  obtain ⟨⟨S, s0, rS, perm⟩, rL, ok⟩ := hs
  obtain ⟨vl, vs, xl, xs, iv, mx, ml, ms, mn⟩ := s0
  refine bG aj4 ZS ?_
  simp only [RK, Try.f37, Option.getD_some, List.replicate, Nat.reduceAdd, Nat.reduceSub, gE]
  refine cL (v := .agg (aQ aG pn)) gQ rfl hf fun H1 r1 o1 f1 => ?_
  simp only [gE]
  refine cL (v := .int .i64 z) ti3 rfl f1 fun H2 r2 o2 f2 => ?_
  simp only [gE]
  rw [fI dZ rfl]
  obtain ⟨H3, hH3⟩ : ∃ H3, H3 = upd H2 (n + 1 + 1) (some (Blk.row (bH.l fA.i.zero.cells) 31)) := ⟨_, rfl⟩
  show Ops env 37 none _ _ _ _ _ (upd H2 (n + 1 + 1) (some (Blk.row (bH.l fA.i.zero.cells) 31))) _
  rw [← hH3]
  have f3 : bI H3 (n + 1 + 1 + 1) := by rw [hH3]; exact f2.new
  have o3 : ∀ j, j ≠ n + 1 + 1 → H3 j = H2 j := fun j hj => by rw [hH3, aP _ _ hj]
  have r3 : H3 (n + 1 + 1) = some (Blk.row (bH.l fA.i.zero.cells) 31) := by rw [hH3, bE]
  clear hH3
  simp only [tyr, fgr, cel, alloc, cB, newRow, gE]
  have r1' : Row (upd H3 (n + 1 + 1 + 1) (some (Blk.row (bH.l [aA.fC]) 128))) n (aQ aG pn) := ((r1.aO (o2 n (by omega))).aO (o3 n (by omega))).upd (by omega)
  rw [aF (show Rd (load env 28 (.ptr n 0)) _ _ [n] (.agg (aQ aG pn)) from Row.j9 r1' gQ rfl (c9 hl))]
  simp only [hkr, gE]
  refine eU (f81 x aG pn _ _) ?_
  simp only [cC, fgr, cE, put, aN]
  refine oT (g := 106) (first := []) (cap := [.ptr (n + 1 + 1 + 1 + 1) 0, .ptr (n + 1 + 1 + 1 + 1 + 1) 0]) rfl rfl ?_
  let TM : List aA := (.ptr x 0 :: .agg (aQ aG pn) :: .int .i64 z :: aA.aB :: .ptr n 0 :: .ptr (n + 1) 0 :: .ptr (n + 1 + 1) 0 :: .bool false :: .ptr (n + 1 + 1 + 1) 0 :: undef :: aA.aB :: aA.aB :: .fn (.func 106) [] [.ptr (n + 1 + 1 + 1 + 1) 0, .ptr (n + 1 + 1 + 1 + 1 + 1) 0] :: undef :: aA.aB :: aA.aB :: aA.aB :: aA.aB :: aA.aB :: undef :: aA.aB :: aA.aB :: undef :: aA.aB :: aA.aB :: aA.aB :: aA.aB :: aA.aB :: [])
  obtain ⟨H6, hH6⟩ : ∃ H6, H6 = upd (upd (upd (upd H3 (n + 1 + 1 + 1) (some (Blk.row (bH.l [aA.fC]) 128))) (n + 1 + 1 + 1 + 1) (some (Blk.row (bH.l [aA.ptr x 0]) 56))) (n + 1 + 1 + 1 + 1 + 1) (some (Blk.row (bH.l (aQ aG pn)) 28))) (n + 1 + 1 + 1 + 1 + 1 + 1) (some (Blk.loop (L37 TM))) := ⟨_, rfl⟩
  show Wp (iC env (aX env) 106 [aA.fn (Fn.yield (n + 1 + 1 + 1 + 1 + 1 + 1)) [] [], aA.ptr (n + 1 + 1 + 1 + 1) 0, aA.ptr (n + 1 + 1 + 1 + 1 + 1) 0]) (upd (upd (upd (upd H3 (n + 1 + 1 + 1) (some (Blk.row (bH.l [aA.fC]) 128))) (n + 1 + 1 + 1 + 1) (some (Blk.row (bH.l [aA.ptr x 0]) 56))) (n + 1 + 1 + 1 + 1 + 1) (some (Blk.row (bH.l (aQ aG pn)) 28))) (n + 1 + 1 + 1 + 1 + 1 + 1) (some (Blk.loop (L37 TM)))) _ _
  rw [NJ, ← hH6]
  have f6 : bI H6 (n + 1 + 1 + 1 + 1 + 1 + 1 + 1) := by rw [hH6]; exact f3.new.new.new.new
  have old6 : Old h H6 n := fun j hj => by rw [hH6, aP _ _ (by omega), aP _ _ (by omega), aP _ _ (by omega), aP _ _ (by omega), o3 j (by omega), o2 j (by omega), o1 j (by omega)]
  have g1 : Row H6 (n + 1) [.int .i64 z] := by rw [hH6]; exact ((((r2.aO (o3 (n + 1) (by omega))).upd (by omega)).upd (by omega)).upd (by omega)).upd (by omega)
  have g2 : H6 (n + 1 + 1) = some (Blk.row (bH.l fA.i.zero.cells) 31) := by rw [hH6, aP _ _ (by omega), aP _ _ (by omega), aP _ _ (by omega), aP _ _ (by omega)]; exact r3
  have g3 : H6 (n + 1 + 1 + 1) = some (Blk.row (bH.l [aA.fC]) 128) := by rw [hH6, aP _ _ (by omega), aP _ _ (by omega), aP _ _ (by omega), bE]
  have g4 : Row H6 (n + 1 + 1 + 1 + 1) [.ptr x 0] := by rw [hH6]; exact ((Row.new _ _ _ _).upd (by omega)).upd (by omega)
  have g5 : Row H6 (n + 1 + 1 + 1 + 1 + 1) (aQ aG pn) := by rw [hH6]; exact (Row.new _ _ _ _).upd (by omega)
  have g6 : H6 (n + 1 + 1 + 1 + 1 + 1 + 1) = some (.loop (L37 TM)) := by rw [hH6, bE]
  clear hH6
  have iv6 : IxV H6 (n + 1 + 1 + 1 + 1 + 1 + 1 + 1) D x vl vs xl xs L S := by
    exact ⟨iv.row.aO (old6 x iv.xn), iv.l.aO (fun j q => old6 j (mn j (ml j q)).1), iv.lp.mono (fun j q => q) (fun j q => old6 j (iv.dn j q)), iv.s.aO (fun j q => old6 j (mn j (ms j q)).1), iv.sp.mono (fun j q => q) (fun j q => old6 j (iv.dn j q)), by have := iv.xn; omega, fun j q => by have := iv.dn j q; omega, iv.xd, iv.vlx, iv.vsx⟩
  have lt : ∀ (j : Nat), j < n → ∀ (h1 : Hp), (∀ j, j < n + 1 + 1 + 1 + 1 + 1 + 1 + 1 → j ≠ n + 1 + 1 + 1 → j ≠ n + 1 + 1 + 1 + 1 + 1 + 1 → h1 j = H6 j) → h1 j = H6 j := fun j hj h1 hk => hk j (by omega) (by omega) (by omega)
  refine cG ((f106 (.fn (.yield (n + 1 + 1 + 1 + 1 + 1 + 1)) [] []) (n + 1 + 1 + 1 + 1) (n + 1 + 1 + 1 + 1 + 1) x aG pn hl L S D (P37 H6 n D L aG pn z (L37 TM)) (fun _ _ _ => False) vl vs xl xs H6 (n + 1 + 1 + 1 + 1 + 1 + 1 + 1) iv6 (fun j q => by have := (mn j (ml j q)).1; omega) rL hc ⟨rfl, rfl, rfl⟩ g4 g5 (by omega) (by omega) f6 ?_ ?_ ?_ (fun _ _ _ _ _ _ _ q => q) ?_).zA f6) ?_
  · intro nS k h1 n1 p
    exact ⟨iv6.l.rds.aO (fun j q => lt j (mn j (ml j q)).1 h1 p.kp), iv6.lp.mono (fun j q => q) (fun j q => lt j (iv.dn j q) h1 p.kp), p.fr⟩
  · intro h' nS hn' hf' ho'
    exact ⟨hf', Nat.le_refl _, fun j hj _ _ => ho' j hj, (ho' _ (by omega)).trans g6, ⟨.fC, (ho' _ (by omega)).trans g3, .inl ⟨rfl, UD _ _ _⟩⟩, fun i hi h1 h2 => by omega⟩
  · intro nS k h1 n1 i b hi hns p
    obtain ⟨c, hc1, hc2⟩ := p.cl
    exact ⟨p.fr.upd (by have := p.ns; omega), p.ns, fun j hj h1' h2' => by rw [aP _ _ (by omega)]; exact p.kp j hj h1' h2', by rw [aP _ _ (by omega)]; exact p.lp, ⟨c, by rw [aP _ _ (by omega)]; exact hc1, hc2⟩, p.sm⟩
  · intro nS k hk id sv h1 n1 hnS hpk p a d1 d2 hsm
    have hidn := iv.dn id d1
    refine qO p.lp rfl rfl ?_
    simp only [HD, List.getD_cons_zero, mM, List.zip_cons_cons, List.zip_nil_left, L37, TM, dP, Try.f37, Option.getD_some, fgr, gE]
    refine ⟨_, p.lp, rfl, ?_⟩
    obtain ⟨h2, hh2⟩ : ∃ h2, h2 = upd h1 (n + 1 + 1 + 1 + 1 + 1 + 1) (some (Blk.loop { L37 TM with state := .busy })) := ⟨_, rfl⟩
    have ho2 : ∀ j, j ≠ n + 1 + 1 + 1 + 1 + 1 + 1 → h2 j = h1 j := fun j hj => by rw [hh2, aP _ _ hj]
    have hlo2 : h2 (n + 1 + 1 + 1 + 1 + 1 + 1) = some (.loop { L37 TM with state := .busy }) := by rw [hh2, bE]
    have hns := p.ns
    have hf2 : bI h2 n1 := by rw [hh2]; exact p.fr.upd (by omega)
    show Run env 37 _ _ _ _ _ (upd h1 (n + 1 + 1 + 1 + 1 + 1 + 1) (some (Blk.loop { L37 TM with state := .busy }))) n1
    rw [← hh2]
    clear hh2
    have a2 : At h2 id sv L[k] := a.aO (ho2 id (by omega)) (fun j q => ho2 j (by have := iv.dn j (d2 j q); omega))
    have a6 : At H6 id sv L[k] := a.aO (lt id hidn h1 p.kp).symm (fun j q => (lt j (iv.dn j (d2 j q)) h1 p.kp).symm)
    have rz : Row h2 (n + 1) [.int .i64 z] := g1.aO ((ho2 (n + 1) (by omega)).trans (p.kp (n + 1) (by omega) (by omega) (by omega)))
    obtain ⟨c, hc1, hc2⟩ := p.cl
    simp only [HA, List.getD_cons_zero, dP, Try.f37, Option.getD_some, cC, fgr, List.nil_append, List.append_nil]
    refine bY ⟨rfl, ?_⟩
    simp only [Nat.reduceAdd, gE]
    rw [aR (dY a2.row a2.ok)]
    simp only [Nat.reduceAdd, gE]
    rw [aR (rz.one (off := 0) rfl ti3 rfl)]
    simp only [hkr, Nat.reduceAdd, gE]
    refine cK hf2 (f82 L[k] sv a2.ok z h2 n1 hf2) fun v6 h6 n6 r6 w6 hn6 f6' ⟨e6, o6⟩ => ?_
    subst e6
    have hlo6 : h6 (n + 1 + 1 + 1 + 1 + 1 + 1) = some (.loop { L37 TM with state := .busy }) := (o6 _ (by omega)).trans hlo2
    have hc6 : h6 (n + 1 + 1 + 1) = some (.row (.l [c]) 128) := ((o6 _ (by omega)).trans (ho2 _ (by omega))).trans hc1
    have sm' : ∀ i (hi : i < L.length), pos false L (key aG pn 0) ≤ i → i < k + 1 → same aG pn L[i] = true := fun i hi h1' h2' => by
      by_cases q : i = k
      · subst q; exact hsm
      · exact p.sm i hi h1' (by omega)
    have keep6 : ∀ j, j < n1 → j ≠ n + 1 + 1 + 1 + 1 + 1 + 1 → h6 j = h1 j := fun j hj hne => (o6 j hj).trans (ho2 j hne)
    cases hth : dC L[k] z with
    | false =>
      simp only [fgr, unOp, Nat.reduceAdd, gE]
      refine ⟨(by (try simp (disch := first | assumption | omega) only [dX, gF]); repeat' (first | rfl | exact (Bool.or_eq_true _ _).mpr (.inr rfl) | refine (Bool.and_eq_true _ _).mpr ⟨?_, ?_⟩)), _, hlo6, .inl ⟨.inl rfl, ⟨f6'.upd (by omega), by omega, fun j hj h1' h2' => ?_, bE _ _ _, ⟨c, by rw [aP _ _ (by omega)]; exact hc6, by rw [NO hpk hk, hth]; exact hc2⟩, sm'⟩⟩, fun j hj hjn => ?_, ?_⟩
      · rw [aP _ _ h2', keep6 j (by omega) h2']; exact p.kp j hj h1' h2'
      · rw [aP _ _ (by omega), keep6 j (by omega) (by omega)]
      · rw [aP _ _ (by omega), keep6 _ (by omega) (by omega)]
    | true =>
      simp only [fgr, unOp, Nat.reduceAdd, gE]
      refine ⟨(by (try simp (disch := first | assumption | omega) only [dX, gF]); repeat' (first | rfl | exact (Bool.or_eq_true _ _).mpr (.inr rfl) | refine (Bool.and_eq_true _ _).mpr ⟨?_, ?_⟩)), ?_⟩
      rw [eQ (Row.fH (v := .ptr id 0) hc6 iI rfl (by show 0 + 1 ≤ 1; omega) rfl)]
      simp only [cC, fgr, cE, aN, cel]
      have spl : bV [c] 0 [aA.ptr id 0] = [aA.ptr id 0] := rfl
      refine ⟨_, (aP _ _ (by omega)).trans hlo6, .inl ⟨.inl rfl, ⟨(f6'.upd (by omega)).upd (by omega), by omega, fun j hj h1' h2' => ?_, bE _ _ _, ⟨.ptr id 0, by rw [aP _ _ (by omega), bE]; rfl, .inr ⟨id, sv, L[k], rfl, by rw [NO hpk hk, hth]; rfl, a6, d1, d2⟩⟩, sm'⟩⟩, fun j hj hjn => ?_, ?_⟩
      · rw [aP _ _ h2', aP _ _ h1', keep6 j (by omega) h2']; exact p.kp j hj h1' h2'
      · rw [aP _ _ (by omega), aP _ _ (by omega), keep6 j (by omega) (by omega)]
      · rw [aP _ _ (by omega), aP _ _ (by omega), keep6 _ (by omega) (by omega)]
  · rintro v5 h5 n5 ⟨⟨e5, nS, hnS, hh⟩, hn5, f5⟩
    rcases hh with ⟨k, hk1, p, hk3⟩ | hr
    · refine ⟨_, p.lp, (fun q => by cases q), .normal, rfl, ?_⟩
      obtain ⟨c, hc1, hc2⟩ := p.cl
      have hns := p.ns
      obtain ⟨h7, hh7⟩ : ∃ h7, h7 = upd h5 (n + 1 + 1 + 1 + 1 + 1 + 1) (some (Blk.loop { L37 TM with state := .exhausted })) := ⟨_, rfl⟩
      have ho7 : ∀ j, j ≠ n + 1 + 1 + 1 + 1 + 1 + 1 → h7 j = h5 j := fun j hj => by rw [hh7, aP _ _ hj]
      have f7 : bI h7 n5 := by rw [hh7]; exact f5.upd (by omega)
      show dR env 37 none _ _ _ _ (upd h5 (n + 1 + 1 + 1 + 1 + 1 + 1) (some (Blk.loop { L37 TM with state := .exhausted }))) n5
      rw [← hh7]
      clear hh7
      have kp7 : ∀ j, j < n → h7 j = h j := fun j hj => by rw [ho7 j (by omega), lt j hj h5 p.kp, old6 j hj]
      have hcell : Row h7 (n + 1 + 1 + 1) [c] := ⟨_, (ho7 _ (by omega)).trans hc1⟩
      have res : h7 (n + 1 + 1) = some (Blk.row (bH.l fA.i.zero.cells) 31) := (ho7 _ (by omega)).trans ((p.kp _ (by omega) (by omega) (by omega)).trans g2)
      simp only [gE]
      rw [aF (hcell.one (off := 0) rfl iI rfl)]
      rcases hc2 with ⟨rfl, hn⟩ | ⟨id, sw, w, rfl, hw, a, d1, d2⟩
      · simp only [tyr, fgr, bor, aV, dV, bF, equal, cM, bZ, c8, WM, gE]
        rw [eQ (Row.fH (v := .agg fA.i.zero.cells) res dZ rfl (by decide) rfl)]
        have spl : bV fA.i.zero.cells 0 (aA.agg fA.i.zero.cells).cells = fA.i.zero.cells := gY rfl
        rw [spl]
        simp only [fgr, gE]
        refine iH (Row.j9 (cs := fA.i.zero.cells) (Row.new _ _ _ _) dZ rfl rfl) ?_
        exact aS.2 ⟨fun j hj => by rw [aP _ _ (by omega), kp7 j hj], k, hk1, p.sm, hk3, .inl ⟨hn, rfl⟩⟩
      · simp only [tyr, fgr, bor, aV, dV, bF, equal, cM, bZ, c8, gE]
        rw [aF (hcell.one (off := 0) rfl iI rfl)]
        have hwL := MK hw
        have okw := ok w hwL
        have hidn := iv.dn id d1
        have a7 : At h7 id sw w := a.aO ((ho7 id (by omega)).trans (lt id hidn h5 p.kp)) (fun j q => (ho7 j (by have := iv.dn j (d2 j q); omega)).trans (lt j (iv.dn j (d2 j q)) h5 p.kp))
        simp only [gE]
        rw [aF (dY a7.row a7.ok)]
        simp only [hkr, gE]
        refine bD f7 (JE w sw a7.ok h7 n5 a7.s (fun j q => by have := iv.dn j (d2 j q); omega) okw.2 f7) fun v8 h8 n8 hn8 f8 ⟨s', e8, b8, i8, o8, m8⟩ => ?_
        subst e8
        simp only [gE]
        have res8 : h8 (n + 1 + 1) = some (Blk.row (bH.l fA.i.zero.cells) 31) := (o8 _ (by omega)).trans res
        rw [eQ (Row.fH (v := .agg (aH w s')) res8 dZ (aW a7.ok.h a7.ok.b) (by decide) (dH b8.kind.2.1))]
        have spl : bV fA.i.zero.cells 0 (aA.agg (aH w s')).cells = aH w s' := gY (aW a7.ok.h a7.ok.b)
        rw [spl]
        simp only [fgr, gE]
        refine iH (dY (Row.new _ _ _ _) a7.ok) ?_
        refine aS.2 ⟨fun j hj => by rw [aP _ _ (by omega), o8 j (by omega), kp7 j hj], k, hk1, p.sm, hk3, .inr ⟨w, s', hw, rfl, hwL, b8.aO fun j q => aP _ _ (by have := i8 j q; omega), fun j q => by have := i8 j q; omega, m8⟩⟩
    · exact hr.elim
theorem f89 (v w : aA) (a b : List UInt8) (h : Hp) (n : Nat) (ha : Bytes h v a) (hb : Bytes h w b) : Wp (bO env (aX env) 89 [v, w]) h n fun v' h' n' => v' = .bool (a == b) ∧ h' = h ∧ n' = n := by
  refine bG af7 YR ?_
  simp only [QH, Try.f89, Option.getD_some, List.replicate, fgr, Nat.reduceAdd, Nat.reduceSub, ha.str t29 t9 t5, gE]
  rw [hb.str t29 t9 t5]
  simp only [fgr, bor, strOp, gE]
theorem zN {id off : Nat} {z : Int} {j : Nat} (hz : z = (j : Nat)) (hj : j < 32) {h' : Hp} {n' : Nat} : Rd (indexAddr env 25 (.ptr id off) (.int .i64 z)) h' n' [] (.ptr id (off + j)) := by
  subst hz
  simp only [indexAddr, u25, aI, dF, z5, Go.Am.idx, bind_assoc, Int.toNat_natCast, Nat.mul_one, aM]
  exact Rd.bind (i2 := []) (Rd.ob (decide_eq_true ⟨by omega, by omega⟩)) (Rd.pure _)
theorem AF {aG : List UInt8} {pn : Int} {j : Nat} (hj : j < aG.length) : (aQ aG pn)[j]? = some (u8 aG[j]) := by
  unfold aQ
  rw [List.getElem?_append_left (by simpa using hj), List.getElem?_map, List.getElem?_eq_getElem hj]; rfl
theorem PK (Q : dM) (ks : List Kf) (p q : Nat) (h1 h2 : List UInt8) (n1 n2 : Int) (l1 : h1.length = 32) (l2 : h2.length = 32) (h : Hp) (n : Nat) (r1 : Row h p (aQ h1 n1)) (r2 : Row h q (aQ h2 n2))
    (hT : ∀ (x0 x1 x5 x7 x18 x27 x32 x37 : aA), Lib.compareBytes h1 h2 = 0 → dR env 87 none Q ks (.exit 0) (x0 :: x1 :: .ptr p 0 :: .ptr q 0 :: .int .i64 0 :: x5 :: aA.aB :: x7 :: aA.aB :: aA.aB :: aA.aB :: aA.aB :: aA.aB :: aA.aB :: aA.aB :: aA.aB :: aA.aB :: aA.aB :: x18 :: aA.aB :: aA.aB :: aA.aB :: aA.aB :: aA.aB :: aA.aB :: aA.aB :: aA.aB :: x27 :: aA.aB :: aA.aB :: aA.aB :: aA.aB :: x32 :: aA.aB :: aA.aB :: aA.aB :: aA.aB :: x37 :: []) h n)
    (hR : ∀ (r : Int) (x0 x1 x5 x7 x18 x27 x32 x37 : aA), r ≠ 0 → Lib.compareBytes h1 h2 = r → dR env 87 none Q ks .ret (x0 :: x1 :: .ptr p 0 :: .ptr q 0 :: .int .i64 r :: x5 :: aA.aB :: x7 :: aA.aB :: aA.aB :: aA.aB :: aA.aB :: aA.aB :: aA.aB :: aA.aB :: aA.aB :: aA.aB :: aA.aB :: x18 :: aA.aB :: aA.aB :: aA.aB :: aA.aB :: aA.aB :: aA.aB :: aA.aB :: aA.aB :: x27 :: aA.aB :: aA.aB :: aA.aB :: aA.aB :: x32 :: aA.aB :: aA.aB :: aA.aB :: aA.aB :: x37 :: []) h n) :
    ∀ (m i : Nat) (x0 x1 x7 x18 x27 x32 x37 : aA), i + m = 32 → Lib.compareBytes (h1.drop i) (h2.drop i) = Lib.compareBytes h1 h2 → Run env 87 none Q (.loop CC) ks (x0 :: x1 :: .ptr p 0 :: .ptr q 0 :: .int .i64 0 :: .int .i64 (i : Nat) :: aA.aB :: x7 :: aA.aB :: aA.aB :: aA.aB :: aA.aB :: aA.aB :: aA.aB :: aA.aB :: aA.aB :: aA.aB :: aA.aB :: x18 :: aA.aB :: aA.aB :: aA.aB :: aA.aB :: aA.aB :: aA.aB :: aA.aB :: aA.aB :: x27 :: aA.aB :: aA.aB :: aA.aB :: aA.aB :: x32 :: aA.aB :: aA.aB :: aA.aB :: aA.aB :: x37 :: []) h n := by
  intro m
  induction m with
  | zero =>
    intro i x0 x1 x7 x18 x27 x32 x37 hi he
    rw [bP]
    have hcc : ¬ (((i : Nat) : Int) < 32) := by omega
    have d1 : h1.drop i = [] := by rw [List.drop_eq_nil_iff]; omega
    have d2 : h2.drop i = [] := by rw [List.drop_eq_nil_iff]; omega
    rw [d1, d2] at he
    simp only [CC, bC, Try.f87, Option.getD_some, fgr, bor, Int.reduceNeg, List.getD_cons_zero, hcc, gE]
    exact hT _ _ _ _ _ _ _ _ he.symm
  | succ m ih =>
    intro i x0 x1 x7 x18 x27 x32 x37 hi he
    rw [bP]
    have hcc : (((i : Nat) : Int) < 32) := by omega
    simp only [CC, bC, Try.f87, Option.getD_some, fgr, bor, Int.reduceNeg, List.getD_cons_zero, hcc, gE]
    have i1 : i < h1.length := by omega
    have i2 : i < h2.length := by omega
    have e1 : h1.drop i = h1[i] :: h1.drop (i + 1) := (List.getElem_cons_drop i1).symm
    have e2 : h2.drop i = h2[i] :: h2.drop (i + 1) := (List.getElem_cons_drop i2).symm
    rw [e1, e2] at he
    simp only [Lib.compareBytes] at he
    have g1 := r1.one (E := env) (n := n) (off := 0 + i) (by rw [Nat.zero_add]; exact AF i1) ti5 rfl
    have g2 := r2.one (E := env) (n := n) (off := 0 + i) (by rw [Nat.zero_add]; exact AF i2) ti5 rfl
    have x1' := zN (id := p) (off := 0) (z := ((i : Nat) : Int)) (j := i) rfl (by omega) (h' := h) (n' := n)
    have x2' := zN (id := q) (off := 0) (z := ((i : Nat) : Int)) (j := i) rfl (by omega) (h' := h) (n' := n)
    have w1 : IntKind.i64.wrap (((i : Nat) : Int) + 1) = ((i + 1 : Nat) : Int) := by rw [w64 (by omega) (by omega)]; omega
    rw [Nat.zero_add] at g1 g2 x1' x2'
    by_cases c1 : h1[i] < h2[i]
    · have c1' : ((h1[i].toNat : Nat) : Int) < ((h2[i].toNat : Nat) : Int) := by rw [UInt8.lt_iff_toNat_lt] at c1; omega
      rw [if_pos c1] at he
      refine bY ⟨rfl, ?_⟩
      simp only [tyr, aM, Nat.reduceAdd, Int.reduceNeg, gE]
      rw [aR x1']
      simp only [Nat.reduceAdd, Int.reduceNeg, gE]
      rw [aR g1]
      simp only [u8, tyr, aM, Nat.reduceAdd, Int.reduceNeg, gE]
      rw [aR x2']
      simp only [Nat.reduceAdd, Int.reduceNeg, gE]
      rw [aR g2]
      simp only [u8, fgr, bor, Nat.reduceAdd, Int.reduceNeg, u8, c1', gE]
      refine ⟨(by (try simp (disch := omega) only [dX, gF]); repeat' (first | rfl | exact (Bool.or_eq_true _ _).mpr (.inr rfl) | refine (Bool.and_eq_true _ _).mpr ⟨?_, ?_⟩)), ?_⟩
      exact hR (-1) _ _ _ _ _ _ _ _ (by decide) he.symm
    have c1' : ¬ ((h1[i].toNat : Nat) : Int) < ((h2[i].toNat : Nat) : Int) := by rw [UInt8.lt_iff_toNat_lt] at c1; omega
    rw [if_neg c1] at he
    refine bY ⟨rfl, ?_⟩
    simp only [tyr, aM, Nat.reduceAdd, Int.reduceNeg, gE]
    rw [aR x1']
    simp only [Nat.reduceAdd, Int.reduceNeg, gE]
    rw [aR g1]
    simp only [u8, tyr, aM, Nat.reduceAdd, Int.reduceNeg, gE]
    rw [aR x2']
    simp only [Nat.reduceAdd, Int.reduceNeg, gE]
    rw [aR g2]
    simp only [u8, fgr, bor, Nat.reduceAdd, Int.reduceNeg, u8, c1', gE]
    refine ⟨(by (try simp (disch := omega) only [dX, gF]); repeat' (first | rfl | exact (Bool.or_eq_true _ _).mpr (.inr rfl) | refine (Bool.and_eq_true _ _).mpr ⟨?_, ?_⟩)), ?_⟩
    refine bY ⟨rfl, ?_⟩
    simp only [tyr, aM, Nat.reduceAdd, Int.reduceNeg, gE]
    rw [aR x1']
    simp only [Nat.reduceAdd, Int.reduceNeg, gE]
    rw [aR g1]
    simp only [u8, tyr, aM, Nat.reduceAdd, Int.reduceNeg, gE]
    rw [aR x2']
    simp only [Nat.reduceAdd, Int.reduceNeg, gE]
    rw [aR g2]
    by_cases c2 : h2[i] < h1[i]
    · have c2' : ((h2[i].toNat : Nat) : Int) < ((h1[i].toNat : Nat) : Int) := by rw [UInt8.lt_iff_toNat_lt] at c2; omega
      rw [if_pos c2] at he
      simp only [u8, fgr, bor, Nat.reduceAdd, Int.reduceNeg, gt_iff_lt, u8, c2', gE]
      refine ⟨(by (try simp (disch := omega) only [dX, gF]); repeat' (first | rfl | exact (Bool.or_eq_true _ _).mpr (.inr rfl) | refine (Bool.and_eq_true _ _).mpr ⟨?_, ?_⟩)), ?_⟩
      exact hR 1 _ _ _ _ _ _ _ _ (by decide) he.symm
    · have c2' : ¬ ((h2[i].toNat : Nat) : Int) < ((h1[i].toNat : Nat) : Int) := by rw [UInt8.lt_iff_toNat_lt] at c2; omega
      rw [if_neg c2] at he
      simp only [u8, fgr, bor, bR, Nat.reduceAdd, Int.reduceNeg, gt_iff_lt, u8, c2', gE]
      refine ⟨(by (try simp (disch := omega) only [dX, gF]); repeat' (first | rfl | exact (Bool.or_eq_true _ _).mpr (.inr rfl) | refine (Bool.and_eq_true _ _).mpr ⟨?_, ?_⟩)), ?_⟩
      simp only [Int.reduceNeg, w1]
      exact ih (i + 1) _ _ _ _ _ _ _ (by omega) he
theorem f87 (h1 h2 : List UInt8) (n1 n2 : Int) (l1 : h1.length = 32) (l2 : h2.length = 32) (h : Hp) (n : Nat) (hf : bI h n) :
    Wp (bO env (aX env) 87 [.agg (aQ h1 n1), .agg (aQ h2 n2)]) h n fun v' h' n' => v' = .int .i64 (lK h1 n1 h2 n2) ∧ Old h h' n := by
  refine bG af9 YT ?_
  simp only [QJ, Try.f87, Option.getD_some, List.replicate, Nat.reduceAdd, Nat.reduceSub, Int.reduceNeg, gE]
  refine cL (v := .agg (aQ h1 n1)) gQ rfl hf fun H1 r1 o1 f1 => ?_
  simp only [Int.reduceNeg, gE]
  refine cL (v := .agg (aQ h2 n2)) gQ rfl f1 fun H2 r2 o2 f2 => ?_
  simp only [fgr, Int.reduceNeg, gE]
  have r1' : Row H2 n (aQ h1 n1) := r1.aO (o2 n (by omega))
  have r2' : Row H2 (n + 1) (aQ h2 n2) := r2
  have old2 : Old h H2 n := fun j hj => by rw [o2 j (by omega), o1 j (by omega)]
  refine PK _ _ n (n + 1) h1 h2 n1 n2 l1 l2 H2 _ r1' r2' ?_ ?_ 32 0 _ _ _ _ _ _ _ (by omega) (by rw [List.drop_zero, List.drop_zero])
  · intro x0 x1 x5 x7 x18 x27 x32 x37 he
    simp only [tyr, aM, Int.reduceNeg, gE]
    rw [aF (r1'.one (iV l1) pU rfl)]
    simp only [tyr, aM, Int.reduceNeg, gE]
    rw [aF (r2'.one (iV l2) pU rfl)]
    by_cases c1 : n1 < n2
    · simp only [fgr, bor, Int.reduceNeg, c1, gE]
      exact ⟨by simp [lK, orI, he, jR, c1], old2⟩
    simp only [tyr, fgr, bor, aM, Int.reduceNeg, c1, gE]
    rw [aF (r1'.one (iV l1) pU rfl)]
    simp only [tyr, aM, gE]
    rw [aF (r2'.one (iV l2) pU rfl)]
    by_cases c2 : n2 < n1
    · simp only [fgr, bor, gt_iff_lt, c2, gE]
      exact ⟨by simp [lK, orI, he, jR, c1, c2], old2⟩
    · simp only [fgr, bor, gt_iff_lt, c2, gE]
      exact ⟨by simp [lK, orI, he, jR, c1, c2], old2⟩
  · intro r x0 x1 x5 x7 x18 x27 x32 x37 h0 he
    simp only [cC, nth, Int.reduceNeg, true_and]
    exact ⟨by simp [lK, orI, he, h0], old2⟩
theorem W1 (a b : List UInt8) (l1 : a.length = 32) (l2 : b.length = 32) : binOp env .eql 25 (.agg (a.map u8)) (.agg (b.map u8)) = M.pure (.bool (decide (a = b))) := by
  have e := MO 98 a b l1 l2
  show aV env .eql 25 (.agg (a.map u8)) (.agg (b.map u8)) = _
  unfold aV
  simp only
  unfold bF
  rw [e, aI]
def tC (v w : Ver) : Bool := decide (lK v.aG v.pn w.aG w.pn = 0) && (decide (v.made = w.made) && (decide (v.value = w.value) && ((v.dN == w.dN) && (decide (v.bW = w.bW) && (decide (v.by_ = w.by_) && (v.aE == w.aE))))))
set_option maxHeartbeats 4000000 in
theorem f42 (v w : Ver) (sv sw : aA) (ov : v.Ok) (ow : w.Ok) (h : Hp) (n : Nat) (hb : Bytes h sv v.aE) (hb2 : Bytes h sw w.aE) (hn1 : ∀ j, aL sv = some j → j < n) (hn2 : ∀ j, aL sw = some j → j < n) (hf : bI h n) :
    Wp (bO env (aX env) 42 [.agg (aH v sv), .agg (aH w sw)]) h n fun v' h' n' => v' = .bool (tC v w) ∧ Old h h' n := by
  refine bG ai9 ZN ?_
  simp only [RD, Try.f42, Option.getD_some, List.replicate, Nat.reduceAdd, Nat.reduceSub, gE]
  refine cL (v := .agg (aH v sv)) dZ rfl hf fun H1 r1 o1 f1 => ?_
  simp only [gE]
  refine cL (v := .agg (aH w sw)) dZ rfl f1 fun H2 r2 o2 f2 => ?_
  have r1' : Row H2 n (aH v sv) := r1.aO (o2 n (by omega))
  have r2' : Row H2 (n + 1) (aH w sw) := r2
  have old2 : Old h H2 n := fun j hj => by rw [o2 j (by omega), o1 j (by omega)]
  simp only [tyr, fgr, aM, gE]
  rw [aF (fL r1' ov)]
  simp only [tyr, aM, gE]
  rw [aF (fL r2' ow)]
  simp only [hkr, gE]
  refine bD f2 (f87 v.aG w.aG v.pn w.pn ov.h ow.h H2 _ f2) fun v3 h3 n3 hn3 f3 ⟨e3, o3⟩ => ?_
  subst e3
  have r1' := r1'.aO (o3 n (by omega))
  have r2' := r2'.aO (o3 (n + 1) (by omega))
  have old3 : Old h h3 n := fun j hj => by rw [o3 j (by omega), old2 j hj]
  have b1 := hb.aO (h' := h3) (fun j q => old3 j (hn1 j q))
  have b2 := hb2.aO (h' := h3) (fun j q => old3 j (hn2 j q))
  by_cases c0 : lK v.aG v.pn w.aG w.pn = 0
  rotate_left
  · simp only [fgr, bor, aY, c0, gE]
    exact ⟨by simp [tC, c0], old3⟩
  simp only [tyr, fgr, bor, aM, c0, gE]
  rw [aF (cO r1' ov)]
  simp only [tyr, aM, gE]
  rw [aF (cO r2' ow)]
  by_cases c1 : v.made = w.made
  rotate_left
  · simp only [fgr, bor, aY, c1, gE]
    exact ⟨by simp [tC, c0, c1], old3⟩
  simp only [tyr, bor, aY, aM, c1, gE]
  rw [aF (wY r1' ov)]
  simp only [tyr, aM, gE]
  rw [aF (wY r2' ow)]
  by_cases c2 : v.value = w.value
  rotate_left
  · simp only [fgr, bor, aY, c2, gE]
    exact ⟨by simp [tC, c0, c1, c2], old3⟩
  simp only [tyr, bor, aY, aM, c2, gE]
  rw [aF (A8 r1' ov)]
  simp only [tyr, aM, gE]
  rw [aF (A8 r2' ow)]
  by_cases c3 : v.dN = w.dN
  rotate_left
  · have cb : (v.dN == w.dN) = false := beq_eq_false_iff_ne.2 c3
    simp only [tyr, fgr, bor, aV, dV, aY, bF, equal, cM, bZ, c8, cb, gE]
    exact ⟨by simp [tC, c0, c1, c2, c3], old3⟩
  have cb : (v.dN == w.dN) = true := beq_iff_eq.2 c3
  simp only [tyr, bor, aV, dV, aY, aM, bF, equal, cM, bZ, c8, cb, gE]
  rw [aF (dK r1' ov)]
  simp only [tyr, aM, gE]
  rw [aF (dK r2' ow)]
  by_cases c4 : v.bW = w.bW
  rotate_left
  · simp only [fgr, bor, aY, c4, gE]
    exact ⟨by simp [tC, c0, c1, c2, c3, c4], old3⟩
  simp only [tyr, bor, aY, aM, c4, gE]
  rw [aF (yF r1' ov)]
  simp only [tyr, aM, gE]
  rw [aF (yF r2' ow)]
  have hq := W1 v.by_ w.by_ ov.b ow.b
  by_cases c5 : v.by_ = w.by_
  rotate_left
  · rw [decide_eq_false c5] at hq
    simp only [fgr, aY, hq, gE]
    exact ⟨by simp [tC, c0, c1, c2, c3, c4, c5], old3⟩
  rw [decide_eq_true c5] at hq
  simp only [tyr, aY, aM, hq, gE]
  rw [aF (eZ r1' ov)]
  simp only [gE]
  rw [b1.str t29 t9 t5]
  simp only [tyr, aM, gE]
  rw [aF (eZ r2' ow)]
  simp only [gE]
  rw [b2.str t29 t9 t5]
  simp only [fgr, bor, strOp, aY, gE]
  exact ⟨by simp [tC, c0, c1, c2, c3, c4, c5]; rw [Bool.eq_iff_iff]; simp, old3⟩
def eqL : List Ver → List Ver → Bool
  | [], [] => true
  | v :: l, w :: m => tC v w && eqL l m
  | _, _ => false
theorem EA : ∀ (l m : List Ver), l.length ≠ m.length → eqL l m = false
  | [], [], h => absurd rfl h
  | [], _ :: _, _ => rfl
  | _ :: _, [], _ => rfl
  | v :: l, w :: m, h => by
    simp only [eqL, EA l m (fun e => h (by simp [e])), Bool.and_false]
theorem zU {h : Hp} {D : Nat → Prop} {cells : List aA} {vs : List Ver} (p : Vs h D cells vs) {v : aA} (hv : Rds h 70 v vs.length cells) {i : Nat} (hi : i < vs.length) {n : Nat} : ∃ sv, Rd (load env 31 (eM (i * 70) v)) h n (rid v) (.agg (aH vs[i] sv)) ∧ Bytes h sv vs[i].aE ∧ vs[i].Ok ∧ ∀ j, aL sv = some j → D j := by
  obtain ⟨sv, e, b, o, d⟩ := p.at_ i hi
  refine ⟨sv, ?_, b, o, d⟩
  have := hv.agg (E := env) (n := n) (k := i * 70) dZ rfl (by decide) (by show i * 70 + 70 ≤ _; rw [p.len]; omega)
  have e' : (cells.drop (i * 70)).take 70 = aH vs[i] sv := e
  exact e' ▸ this
theorem PT (Q : dM) (ks : List Kf) (v w : aA) (vs ws : List Ver) (cv cw : List aA) (D : Nat → Prop) (h0 : Hp) (n0 : Nat) (hlen : vs.length = ws.length) (hc : vs.length ≤ 10000000) (hv : Rds h0 70 v vs.length cv) (hw : Rds h0 70 w ws.length cw) (pv : Vs h0 D cv vs) (pw : Vs h0 D cw ws) (hvn : ∀ j, aL v = some j → j < n0) (hwn : ∀ j, aL w = some j → j < n0) (hD : ∀ j, D j → j < n0)
    (hT : ∀ (h : Hp) (n : Nat) (x5 x6 x11 x15 x28 : aA), eqL vs ws = true → n0 ≤ n → bI h n → Old h0 h n0 → dR env 35 none Q ks (.exit 0) (v :: w :: aA.aB :: aA.aB :: .bool false :: x5 :: x6 :: aA.aB :: aA.aB :: aA.aB :: aA.aB :: x11 :: aA.aB :: aA.aB :: aA.aB :: x15 :: aA.aB :: aA.aB :: aA.aB :: aA.aB :: aA.aB :: aA.aB :: aA.aB :: aA.aB :: aA.aB :: aA.aB :: aA.aB :: aA.aB :: x28 :: []) h n)
    (hF : ∀ (h : Hp) (n : Nat) (x5 x6 x11 x15 x28 : aA), eqL vs ws = false → n0 ≤ n → bI h n → Old h0 h n0 → dR env 35 none Q ks .ret (v :: w :: aA.aB :: aA.aB :: .bool false :: x5 :: x6 :: aA.aB :: aA.aB :: aA.aB :: aA.aB :: x11 :: aA.aB :: aA.aB :: aA.aB :: x15 :: aA.aB :: aA.aB :: aA.aB :: aA.aB :: aA.aB :: aA.aB :: aA.aB :: aA.aB :: aA.aB :: aA.aB :: aA.aB :: aA.aB :: x28 :: []) h n) :
    ∀ (m i : Nat) (h : Hp) (n : Nat) (x6 x11 x15 x28 : aA), i + m = vs.length → eqL (vs.drop i) (ws.drop i) = eqL vs ws → n0 ≤ n → bI h n → Old h0 h n0 → Run env 35 none Q (.loop CQ) ks (v :: w :: aA.aB :: aA.aB :: .bool false :: .int .i64 (i : Nat) :: x6 :: aA.aB :: aA.aB :: aA.aB :: aA.aB :: x11 :: aA.aB :: aA.aB :: aA.aB :: x15 :: aA.aB :: aA.aB :: aA.aB :: aA.aB :: aA.aB :: aA.aB :: aA.aB :: aA.aB :: aA.aB :: aA.aB :: aA.aB :: aA.aB :: x28 :: []) h n := by
  intro m
  induction m with
  | zero =>
    intro i h n x6 x11 x15 x28 hi he hn hf ho
    rw [bP]
    have hv' := hv.aO (h' := h) (fun j q => ho j (hvn j q))
    have hcc : ¬ (((i : Nat) : Int) < ((vs.length : Nat) : Int)) := by omega
    rw [List.drop_eq_nil_of_le (by omega), List.drop_eq_nil_of_le (by omega)] at he
    simp only [CQ, bC, Try.f35, Option.getD_some, fgr, builtin, bor, List.getD_cons_zero, hv'.cP u43, hcc, gE]
    exact hT h n _ _ _ _ _ he.symm hn hf ho
  | succ m ih =>
    intro i h n x6 x11 x15 x28 hi he hn hf ho
    rw [bP]
    have hv' := hv.aO (h' := h) (fun j q => ho j (hvn j q))
    have hw' := hw.aO (h' := h) (fun j q => ho j (hwn j q))
    have pv' := pv.mono (D' := D) (fun j q => q) (fun j q => ho j (hD j q))
    have pw' := pw.mono (D' := D) (fun j q => q) (fun j q => ho j (hD j q))
    have hcc : (((i : Nat) : Int) < ((vs.length : Nat) : Int)) := by omega
    have i1 : i < vs.length := by omega
    have i2 : i < ws.length := by omega
    obtain ⟨sv, ld1, b1, k1, d1⟩ := zU pv' hv' i1 (n := n)
    obtain ⟨sw, ld2, b2, k2, d2⟩ := zU pw' hw' i2 (n := n)
    have w1 : IntKind.i64.wrap (((i : Nat) : Int) + 1) = ((i + 1 : Nat) : Int) := by rw [w64 (by omega) (by omega)]; omega
    have e1 : vs.drop i = vs[i] :: vs.drop (i + 1) := (List.getElem_cons_drop i1).symm
    have e2 : ws.drop i = ws[i] :: ws.drop (i + 1) := (List.getElem_cons_drop i2).symm
    rw [e1, e2] at he
    simp only [eqL] at he
    simp only [CQ, bC, Try.f35, Option.getD_some, fgr, builtin, bor, List.getD_cons_zero, hv'.cP u43, hcc, gE]
    refine bY ⟨rfl, ?_⟩
    simp only [Nat.reduceAdd, gE]
    rw [aR (hv'.idx u43 BV rfl i1)]
    simp only [Nat.reduceAdd, gE]
    rw [aR ld1]
    simp only [Nat.reduceAdd, gE]
    rw [aR (hw'.idx u43 BV rfl i2)]
    simp only [Nat.reduceAdd, gE]
    rw [aR ld2]
    simp only [hkr, Nat.reduceAdd, gE]
    refine cK hf (f42 vs[i] ws[i] sv sw k1 k2 h n b1 b2 (fun j q => by have := hD j (d1 j q); omega) (fun j q => by have := hD j (d2 j q); omega) hf) fun v6 h6 n6 r6 w6 hn6 f6 ⟨e6, o6⟩ => ?_
    subst e6
    have ho6 : Old h0 h6 n0 := fun j hj => (o6 j (by omega)).trans (ho j hj)
    simp only [fgr, unOp, Nat.reduceAdd, gE]
    refine ⟨(by (try simp (disch := first | assumption | omega) only [dX, gF]); repeat' (first | rfl | exact (Bool.or_eq_true _ _).mpr (.inr rfl) | refine (Bool.and_eq_true _ _).mpr ⟨?_, ?_⟩)), ?_⟩
    cases hq : tC vs[i] ws[i] with
    | false =>
      rw [hq, Bool.false_and] at he
      simp only [fgr, gE]
      exact hF h6 n6 _ _ _ _ _ he.symm (by omega) f6 ho6
    | true =>
      rw [hq, Bool.true_and] at he
      simp only [fgr, bor, bR, w1, gE]
      exact ih (i + 1) h6 n6 _ _ _ _ (by omega) he (by omega) f6 ho6
theorem f35 (v w : aA) (vs ws : List Ver) (cv cw : List aA) (D : Nat → Prop) (h : Hp) (n : Nat) (hc : vs.length ≤ 10000000) (hv : Rds h 70 v vs.length cv) (hw : Rds h 70 w ws.length cw) (pv : Vs h D cv vs) (pw : Vs h D cw ws) (hvn : ∀ j, aL v = some j → j < n) (hwn : ∀ j, aL w = some j → j < n) (hD : ∀ j, D j → j < n) (hf : bI h n) :
    Wp (bO env (aX env) 35 [v, w]) h n fun v' h' n' => v' = .bool (eqL vs ws) ∧ Old h h' n := by
  refine bG aj6 ZU ?_
  by_cases c : vs.length = ws.length
  · have cc : (((vs.length : Nat) : Int) = ((ws.length : Nat) : Int)) = True := by simp; omega
    simp only [MH, Try.f35, Option.getD_some, List.replicate, fgr, builtin, bor, Nat.reduceAdd, Nat.reduceSub, hv.cP u43, hw.cP u43, cc, gE]
    refine PT _ _ v w vs ws cv cw D h n c hc hv hw pv pw hvn hwn hD ?_ ?_ vs.length 0 h n _ _ _ _ (by omega) rfl (Nat.le_refl _) hf (Old.refl _ _)
    · intro h1 n1 x5 x6 x11 x15 x28 he hn hf1 ho
      simp only [fgr, gE]
      exact ⟨by rw [he], ho⟩
    · intro h1 n1 x5 x6 x11 x15 x28 he hn hf1 ho
      simp only [cC, nth, true_and]
      exact ⟨by rw [he], ho⟩
  · have cc : (((vs.length : Nat) : Int) = ((ws.length : Nat) : Int)) = False := by simp; omega
    simp only [MH, Try.f35, Option.getD_some, List.replicate, fgr, builtin, bor, Nat.reduceAdd, Nat.reduceSub, hv.cP u43, hw.cP u43, cc, gE]
    exact ⟨by rw [EA _ _ c], Old.refl _ _⟩
theorem P6 (o : Bool) (L : List Ver) (v : Ver) : pos o L v ≤ L.length := List.countP_le_length
theorem qY {o : Bool} {L : List Ver} (r : dW o L) (v : Ver) : Pos o L v (pos o L v) := by
  induction L with
  | nil => exact ⟨Nat.le_refl _, fun k hk => absurd hk (Nat.not_lt_zero _), fun k hk => absurd hk (Nat.not_lt_zero _)⟩
  | cons a L ih =>
    have r' : dW o L := (List.pairwise_cons.1 r).2
    have ra := (List.pairwise_cons.1 r).1
    have i := ih r'
    by_cases c : hZ o a v < 0
    · have e : pos o (a :: L) v = pos o L v + 1 := by unfold pos; rw [List.countP_cons, if_pos (decide_eq_true c)]
      rw [e]
      refine ⟨by have := i.le; simp; omega, fun k hk h => ?_, fun k hk h => ?_⟩
      · cases k with
        | zero => exact c
        | succ k => exact i.lo k (by simpa using hk) (by omega)
      · cases k with
        | zero => omega
        | succ k => exact i.hi k (by simpa using hk) (by omega)
    · have all : ∀ b ∈ L, ¬ hZ o b v < 0 := fun b hb h => c ((yK o).lt _ _ _ (ra b hb) h)
      have e : pos o (a :: L) v = 0 := by
        unfold pos
        rw [List.countP_eq_zero]
        intro b hb
        rcases List.mem_cons.1 hb with rfl | hb
        · simpa using c
        · simpa using all b hb
      rw [e]
      refine ⟨Nat.zero_le _, fun k hk h => absurd h (Nat.not_lt_zero _), fun k hk h => ?_⟩
      cases k with
      | zero => exact c
      | succ k => exact all _ (List.getElem_mem _)
theorem HH {L : List Ver} {w v : Ver} (r : dW false L) (hw : w ∈ L) (he : cV w v = 0) : pos false (iZ L w) v = pos false L w := by
  obtain ⟨hp, hpw⟩ := q8 r (qY r w) hw
  have pm := (jQ hp).countP_eq (fun u => decide (hZ false u w < 0))
  have e : ∀ u : Ver, hZ false u v = hZ false u w := fun u => (nR.eqr (d := u) he).symm
  show (gM L (pos false L w)).countP (fun u => decide (hZ false u v < 0)) = _
  simp only [e]
  rw [List.countP_cons, if_neg (by
    rw [hpw]
    have := nR.refl w
    simp only [decide_eq_true_eq]
    show ¬ cV w w < 0
    omega)] at pm
  exact pm.symm
theorem HF {L : List Ver} {w v : Ver} (r : dW false L) (hw : w ∈ L) (he : cV w v = 0) : lJ (iZ L w) v = L.set (pos false L w) v := by
  obtain ⟨hp, hpw⟩ := q8 r (qY r w) hw
  have ht : (L.take (pos false L w)).length = pos false L w := by rw [List.length_take]; omega
  unfold lJ
  rw [HH r hw he]
  unfold iZ fG gM
  rw [List.take_left' ht, List.drop_left' ht, List.set_eq_take_append_cons_drop, if_pos hp]
theorem f45 (v w : Ver) (sv sw : aA) (ov : v.Ok) (ow : w.Ok) (h : Hp) (n : Nat) (hf : bI h n) :
    Wp (bO env (aX env) 45 [.agg (aH v sv), .agg (aH w sw)]) h n fun v' h' n' => v' = .int .i64 (cV v w) ∧ Old h h' n := by
  refine bG ai6 ZK ?_
  simp only [R9, Try.f45, Option.getD_some, List.replicate, Nat.reduceAdd, Nat.reduceSub, Int.reduceNeg, gE]
  refine cL (v := .agg (aH v sv)) dZ rfl hf fun H1 r1 o1 f1 => ?_
  simp only [Int.reduceNeg, gE]
  refine cL (v := .agg (aH w sw)) dZ rfl f1 fun H2 r2 o2 f2 => ?_
  have r1' : Row H2 n (aH v sv) := r1.aO (o2 n (by omega))
  have r2' : Row H2 (n + 1) (aH w sw) := r2
  have old2 : Old h H2 n := fun j hj => by rw [o2 j (by omega), o1 j (by omega)]
  simp only [tyr, fgr, aM, Int.reduceNeg, gE]
  rw [aF (fL r1' ov)]
  simp only [tyr, aM, Int.reduceNeg, gE]
  rw [aF (fL r2' ow)]
  simp only [hkr, Int.reduceNeg, gE]
  refine bD f2 (f87 v.aG w.aG v.pn w.pn ov.h ow.h H2 _ f2) fun v3 h3 n3 hn3 f3 ⟨e3, o3⟩ => ?_
  subst e3
  have r1' := r1'.aO (o3 n (by omega))
  have r2' := r2'.aO (o3 (n + 1) (by omega))
  have old3 : Old h h3 n := fun j hj => by rw [o3 j (by omega), old2 j hj]
  by_cases c0 : lK v.aG v.pn w.aG w.pn = 0
  rotate_left
  · have c0' : (lK v.aG v.pn w.aG w.pn != 0) = true := bne_iff_ne.2 c0
    simp only [fgr, bor, Int.reduceNeg, c0, gE]
    exact ⟨by simp [cV, orI, c0], old3⟩
  simp only [tyr, fgr, bor, aM, Int.reduceNeg, c0, gE]
  rw [aF (cO r1' ov)]
  simp only [tyr, aM, Int.reduceNeg, gE]
  rw [aF (cO r2' ow)]
  by_cases c1 : v.made < w.made
  · simp only [fgr, bor, Int.reduceNeg, c1, gE]
    exact ⟨by simp [cV, orI, c0, jR, c1], old3⟩
  simp only [tyr, fgr, bor, aM, Int.reduceNeg, c1, gE]
  rw [aF (cO r1' ov)]
  simp only [tyr, aM, gE]
  rw [aF (cO r2' ow)]
  by_cases c2 : w.made < v.made
  · simp only [fgr, bor, gt_iff_lt, c2, gE]
    exact ⟨by simp [cV, orI, c0, jR, c1, c2], old3⟩
  · simp only [fgr, bor, gt_iff_lt, c2, gE]
    exact ⟨by simp [cV, orI, c0, jR, c1, c2], old3⟩
theorem f46 (v : Ver) (sv : aA) (ov : v.Ok) (z : Int) (h : Hp) (n : Nat) (hf : bI h n) :
    Wp (bO env (aX env) 46 [.agg (aH v sv), .int .i64 z]) h n fun v' h' n' => v' = .bool (dC v z) ∧ Old h h' n := by
  refine bG ai5 ZJ ?_
  simp only [R8, Try.f46, Option.getD_some, List.replicate, Nat.reduceAdd, Nat.reduceSub, gE]
  refine cL (v := .agg (aH v sv)) dZ rfl hf fun H1 r1 o1 f1 => ?_
  have old1 : Old h H1 n := fun j hj => o1 j (by omega)
  simp only [tyr, fgr, aM, gE]
  rw [aF (cO r1 ov)]
  by_cases c1 : z < v.made
  · simp only [fgr, bor, gt_iff_lt, c1, gE]
    exact ⟨by simp [dC]; omega, old1⟩
  have c1' : v.made ≤ z := by omega
  simp only [tyr, fgr, bor, aM, gt_iff_lt, c1, gE]
  rw [aF (dK r1 ov)]
  by_cases c2 : v.bW = 0
  · simp only [fgr, bor, aY, c2, gE]
    exact ⟨by simp [dC, c1', c2], old1⟩
  simp only [tyr, bor, aM, c2, gE]
  rw [aF (dK r1 ov)]
  by_cases c3 : z < v.bW
  · simp only [fgr, bor, aY, c3, gE]
    exact ⟨by simp [dC, c1', c2, c3], old1⟩
  · simp only [fgr, bor, aY, c3, gE]
    exact ⟨by simp [dC, c1', c2, c3], old1⟩
noncomputable def L43 (tm : List aA) : lU := { state := .ready, pending := none, fn := 43, tmps := tm, params := [19], assign := HC, body := H9 }
def iL (aE : List UInt8) : Ver := ⟨List.replicate 32 0, 0, 0, 0, aE, false, 0, List.replicate 32 0⟩
theorem M9 (aE : List UInt8) : (iL aE).Ok := ⟨rfl, rfl⟩
def z35 : List aA := List.replicate 32 (.int .u8 0) ++ [.int .u32 0, .int .i64 0, .int .i64 0]
def z34 : List aA := [.bool false, .int .i64 0] ++ List.replicate 32 (.int .u8 0)
theorem WV : fA.i.zero.cells = z35 ++ [.aT] ++ z34 := rfl
theorem JV {sv : aA} {aE : List UInt8} (hs : sv.cells = [sv] ∧ bK sv = true ∧ eI sv = false) : build env 31 [(3, sv)] = M.pure (.agg (aH (iL aE) sv)) := by
  have e1 : ∀ pl : Nat → Option (Nat × Nat), pl 3 = some (35, 1) → fill pl fA.i.zero.cells [(3, sv)] = some (aH (iL aE) sv) := fun pl p0 => by
    rw [WV, oZ p0 rfl rfl (by rw [hs.1]; rfl) hs.2.2, hs.1]
    simp only [fill]
    congr 1
  have e2 : build env 31 [(3, sv)] = (eE "build" (fill ([(0, 33), (33, 1), (34, 1), (35, 1), (36, 1), (37, 1), (38, 32)][·]?) fA.i.zero.cells [(3, sv)])).bind fun cs => M.pure (.agg cs) := rfl
  rw [e2, e1 _ rfl]
  rfl
def pT (S : List Ver) (p k : Nat) (z : Int) : List Ver := ((S.take k).drop p).filter fun v => dC v z
theorem GI (S : List Ver) (p : Nat) (z : Int) : pT S p p z = [] := by
  unfold pT
  rw [List.drop_eq_nil_of_le (by rw [List.length_take]; omega)]; rfl
theorem yD {L : List Ver} {p k : Nat} (hp : p ≤ k) (hk : k < L.length) (z : Int) : pT L p (k + 1) z = if dC L[k] z then pT L p k z ++ [L[k]] else pT L p k z := by
  unfold pT
  rw [List.take_add_one, List.getElem?_eq_getElem hk, List.drop_append_of_le_length (by rw [List.length_take]; omega), List.filter_append]
  by_cases c : dC L[k] z = true
  · rw [if_pos c]; simp [c]
  · rw [if_neg c]; simp [c]
theorem L8 (L : List Ver) (p k : Nat) (z : Int) : (pT L p k z).length ≤ L.length := by
  unfold pT
  have h1 := List.length_filter_le (fun v => dC v z) ((L.take k).drop p)
  have h2 : ((L.take k).drop p).length ≤ L.length := by rw [List.length_drop, List.length_take]; omega
  omega
structure P43 (H7 : Hp) (n : Nat) (S : List Ver) (aE : List UInt8) (z : Int) (nS k : Nat) (h1 : Hp) (n1 : Nat) : Prop where
  fr : bI h1 n1
  n7 : n + 1 + 1 + 1 + 1 + 1 + 1 + 1 ≤ nS
  ns : nS ≤ n1
  kp : ∀ j, j < n + 1 + 1 + 1 + 1 + 1 + 1 + 1 → j ≠ n + 1 + 1 → j ≠ n + 1 + 1 + 1 + 1 + 1 + 1 → h1 j = H7 j
  cl : ∃ acc cells, h1 (n + 1 + 1) = some (.row (.l [acc]) 43) ∧ Lst h1 31 70 acc (pT S (pos true S (iL aE)) k z).length cells ∧ Vm h1 (fun j => nS ≤ j ∧ j < n1 ∧ aL acc ≠ some j) cells (pT S (pos true S (iL aE)) k z) ∧ ∀ j, aL acc = some j → nS ≤ j
  sm : ∀ i (hi : i < S.length), pos true S (iL aE) ≤ i → i < k → S[i].aE = aE
theorem f43 (x : Nat) (sv : aA) (aE : List UInt8) (z : Int) (L : List Ver) (D M : Nat → Prop) (h : Hp) (n : Nat) (hs : Ix h n D M x L) (hb : Bytes h sv aE) (hsn : ∀ j, aL sv = some j → j < n) (hc : L.length ≤ 1000000) (hf : bI h n) :
    Wp (bO env (aX env) 43 [.ptr x 0, sv, .int .i64 z]) h n fun v' h' n' => Old h h' n ∧ ∃ S k, dW true S ∧ L.Perm S ∧ pos true S (iL aE) ≤ k ∧ (∀ i (hi : i < S.length), pos true S (iL aE) ≤ i → i < k → S[i].aE = aE) ∧ (∀ hk : k < S.length, S[k].aE ≠ aE) ∧ VL h' n n' v' (pT S (pos true S (iL aE)) k z) := by
  obtain ⟨⟨S, s0, rS, perm⟩, rL, ok⟩ := hs
  obtain ⟨vl, vs, xl, xs, iv, mx, ml, ms, mn⟩ := s0
  refine bG ai8 ZM ?_
  simp only [RC, Try.f43, Option.getD_some, List.replicate, Nat.reduceAdd, Nat.reduceSub, gE]
  refine cL (v := sv) jJ hb.kind.2.2 hf fun H1 r1 o1 f1 => ?_
  rw [hb.kind.1] at r1
  simp only [gE]
  refine cL (v := .int .i64 z) ti3 rfl f1 fun H2 r2 o2 f2 => ?_
  simp only [tyr, fgr, hkr, cel, alloc, cB, newRow, gE]
  obtain ⟨H3, hH3⟩ : ∃ H3, H3 = upd H2 (n + 1 + 1) (some (Blk.row (bH.l [aA.aT]) 43)) := ⟨_, rfl⟩
  rw [← hH3]
  have f3 : bI H3 (n + 1 + 1 + 1) := by rw [hH3]; exact f2.new
  have o3 : ∀ j, j ≠ n + 1 + 1 → H3 j = H2 j := fun j hj => by rw [hH3, aP _ _ hj]
  have r3 : H3 (n + 1 + 1) = some (Blk.row (bH.l [aA.aT]) 43) := by rw [hH3, bE]
  clear hH3
  have old3 : Old h H3 n := fun j hj => by rw [o3 j (by omega), o2 j (by omega), o1 j (by omega)]
  have r1' : Row H3 n [sv] := (r1.aO (o2 n (by omega))).aO (o3 n (by omega))
  have r2' : Row H3 (n + 1) [.int .i64 z] := r2.aO (o3 (n + 1) (by omega))
  refine eU (f73 x _ true H3 _ (iv.row.aO (old3 x iv.xn)) rfl) ?_
  simp only [cC, fgr, opd, cE, put, nth, aN, Bool.not_true]
  refine bY ⟨rfl, ?_⟩
  simp only [tyr, aM, Nat.reduceAdd, gE]
  rw [aR (r1'.one (off := 0) rfl jJ rfl)]
  simp only [cel, alloc, Nat.reduceAdd, JV (aE := aE) hb.kind, gE]
  refine lE (xs := aH (iL aE) sv) dZ f3 fun H4 r4 o4 f4 => ?_
  simp only [hkr, Nat.reduceAdd, gE]
  refine cK f4 (f88 x 3 (n + 1 + 1 + 1) H4 _) fun v3 h3 n3 r3w w3 hn3 f5 ⟨e3, eh3, en3⟩ => ?_
  subst e3; subst en3
  simp only [j5, cC, fgr, cE, put, aN, Nat.reduceAdd]
  refine ⟨(by (try simp (disch := first | assumption | omega) only [dX, gF]); repeat' (first | rfl | exact (Bool.or_eq_true _ _).mpr (.inr rfl) | refine (Bool.and_eq_true _ _).mpr ⟨?_, ?_⟩)), ?_⟩
  have row4 : Row h3 (n + 1 + 1 + 1 + 1) [.ptr x 3] := by rw [eh3]; exact (Row.new _ _ _ _).upd (by omega)
  have row5 : Row h3 (n + 1 + 1 + 1 + 1 + 1) [.ptr (n + 1 + 1 + 1) 0] := by rw [eh3]; exact Row.new _ _ _ _
  have o5 : ∀ j, j < n + 1 + 1 + 1 + 1 → h3 j = H4 j := fun j hj => by rw [eh3, aP _ _ (by omega), aP _ _ (by omega)]
  clear eh3
  refine oT (g := 109) (first := []) (cap := [.ptr (n + 1 + 1 + 1 + 1) 0, .ptr (n + 1 + 1 + 1 + 1 + 1) 0]) rfl rfl ?_
  let TM : List aA := (.ptr x 0 :: sv :: .int .i64 z :: aA.aB :: .ptr n 0 :: .ptr (n + 1) 0 :: .aT :: .ptr (n + 1 + 1) 0 :: undef :: aA.aB :: .bool false :: aA.aB :: aA.aB :: aA.aB :: aA.aB :: aA.aB :: aA.aB :: aA.aB :: .fn (.func 109) [] [.ptr (n + 1 + 1 + 1 + 1) 0, .ptr (n + 1 + 1 + 1 + 1 + 1) 0] :: undef :: aA.aB :: aA.aB :: aA.aB :: aA.aB :: aA.aB :: aA.aB :: undef :: aA.aB :: aA.aB :: aA.aB :: aA.aB :: undef :: aA.aB :: aA.aB :: aA.aB :: aA.aB :: aA.aB :: aA.aB :: aA.aB :: aA.aB :: [])
  obtain ⟨H7, hH7⟩ : ∃ H7, H7 = upd h3 (n + 1 + 1 + 1 + 1 + 1 + 1) (some (Blk.loop (L43 TM))) := ⟨_, rfl⟩
  show Wp (iC env (aX env) 109 [aA.fn (Fn.yield (n + 1 + 1 + 1 + 1 + 1 + 1)) [] [], aA.ptr (n + 1 + 1 + 1 + 1) 0, aA.ptr (n + 1 + 1 + 1 + 1 + 1) 0]) (upd h3 (n + 1 + 1 + 1 + 1 + 1 + 1) (some (Blk.loop (L43 TM)))) _ _
  rw [NI, ← hH7]
  have f7 : bI H7 (n + 1 + 1 + 1 + 1 + 1 + 1 + 1) := by rw [hH7]; exact f5.new
  have o7 : ∀ j, j ≠ n + 1 + 1 + 1 + 1 + 1 + 1 → H7 j = h3 j := fun j hj => by rw [hH7, aP _ _ hj]
  have g6 : H7 (n + 1 + 1 + 1 + 1 + 1 + 1) = some (.loop (L43 TM)) := by rw [hH7, bE]
  clear hH7
  have old7 : Old h H7 n := fun j hj => by rw [o7 j (by omega), o5 j (by omega), o4 j (by omega), old3 j hj]
  have g0 : Row H7 n [sv] := ((r1'.aO (o4 n (by omega))).aO (o5 n (by omega))).aO (o7 n (by omega))
  have g1 : Row H7 (n + 1) [.int .i64 z] := ((r2'.aO (o4 (n + 1) (by omega))).aO (o5 (n + 1) (by omega))).aO (o7 (n + 1) (by omega))
  have g2 : H7 (n + 1 + 1) = some (Blk.row (bH.l [aA.aT]) 43) := by rw [o7 _ (by omega), o5 _ (by omega), o4 _ (by omega)]; exact r3
  have g3 : Row H7 (n + 1 + 1 + 1) (aH (iL aE) sv) := by
    refine Row.aO (h := H4) ⟨_, r4⟩ ?_
    rw [o7 _ (by omega), o5 _ (by omega)]
  have lt : ∀ (j : Nat), j < n → ∀ (h1 : Hp), (∀ j, j < n + 1 + 1 + 1 + 1 + 1 + 1 + 1 → j ≠ n + 1 + 1 → j ≠ n + 1 + 1 + 1 + 1 + 1 + 1 → h1 j = H7 j) → h1 j = H7 j := fun j hj h1 hk => hk j (by omega) (by omega) (by omega)
  have hS : S.length = L.length := perm.length_eq.symm
  have kt : AtN H7 (n + 1 + 1 + 1 + 1 + 1 + 1 + 1) (n + 1 + 1 + 1) sv (iL aE) := ⟨⟨g3, hb.aO (fun j q => old7 j (hsn j q)), M9 _⟩, by omega, fun j q => by have := hsn j q; omega⟩
  have sl7 := iv.s.aO (h' := H7) (fun j q => old7 j (mn j (ms j q)).1)
  have sp7 := iv.sp.mono (h' := H7) (D' := D) (fun j q => q) (fun j q => old7 j (iv.dn j q))
  have hro : BQ vs := by
    have q := iv.s
    generalize S.length = len at q
    cases q with
    | nil => trivial
    | zero => exact Nat.le_refl _
    | sl => trivial
  refine cG ((f109 true (.fn (.yield (n + 1 + 1 + 1 + 1 + 1 + 1)) [] []) (n + 1 + 1 + 1 + 1) (n + 1 + 1 + 1 + 1 + 1) x 3 _ vs (n + 1 + 1 + 1) sv (iL aE) S.length xs S D
    (fun k h1 n1 => ∃ nS, P43 H7 n S aE z nS k h1 n1 ∧ h1 (n + 1 + 1 + 1 + 1 + 1 + 1) = some (.loop (L43 TM)))
    (fun h1 n1 => ∃ l nS k, h1 (n + 1 + 1 + 1 + 1 + 1 + 1) = some (.loop l) ∧ l.state = .done ∧ l.pending = some (.exit 0) ∧ pos true S (iL aE) ≤ k ∧ P43 H7 n S aE z nS k h1 n1 ∧ ∀ hk : k < S.length, S[k].aE ≠ aE)
    H7 (n + 1 + 1 + 1 + 1 + 1 + 1 + 1) (row4.aO (o7 _ (by omega))) (row5.aO (o7 _ (by omega))) (iv.row.aO (old7 x iv.xn)) rfl rfl (by omega) sl7.rds hro (fun j q => by have := (mn j (ms j q)).1; omega) sp7 (fun j q => by have := iv.dn j q; omega) kt (rS.mono _) f7 (by omega) (by have := iv.xn; omega) ?_ ?_ ?_).zA f7) ?_
  · rintro k h1 n1 ⟨nS, p, _⟩
    exact ⟨sl7.rds.aO (fun j q => lt j (mn j (ms j q)).1 h1 p.kp), sp7.mono (fun j q => q) (fun j q => lt j (iv.dn j q) h1 p.kp), p.fr⟩
  · intro p h' n' hpos hn' hf' ho'
    rw [hpos.eq]
    exact ⟨n', ⟨hf', by omega, Nat.le_refl _, fun j hj _ _ => ho' j hj, ⟨.aT, [], (ho' _ (by omega)).trans g2, by rw [GI]; exact .nil, by rw [GI]; exact Vm.nil _ _, fun j q => by cases q⟩, fun i hi h1 h2 => by omega⟩, (ho' _ (by omega)).trans g6⟩
  · rintro p k hk id sv2 h1 n1 hpos hpk ⟨nS, pp, hlo⟩ hx a d1 d2
    have hpk' : pos true S (iL aE) ≤ k := by rw [← hpos.eq]; exact hpk
    have hidn := iv.dn id d1
    have h77 := pp.n7
    have hns := pp.ns
    refine qO hlo rfl rfl ?_
    simp only [HC, List.getD_cons_zero, mM, List.zip_cons_cons, List.zip_nil_left, L43, TM, dP, Try.f43, Option.getD_some, fgr, gE]
    refine ⟨_, hlo, rfl, ?_⟩
    obtain ⟨h2, hh2⟩ : ∃ h2, h2 = upd h1 (n + 1 + 1 + 1 + 1 + 1 + 1) (some (Blk.loop { L43 TM with state := .busy })) := ⟨_, rfl⟩
    have ho2 : ∀ j, j ≠ n + 1 + 1 + 1 + 1 + 1 + 1 → h2 j = h1 j := fun j hj => by rw [hh2, aP _ _ hj]
    have hlo2 : h2 (n + 1 + 1 + 1 + 1 + 1 + 1) = some (.loop { L43 TM with state := .busy }) := by rw [hh2, bE]
    have hf2 : bI h2 n1 := by rw [hh2]; exact pp.fr.upd (by omega)
    show Run env 43 _ _ _ _ _ (upd h1 (n + 1 + 1 + 1 + 1 + 1 + 1) (some (Blk.loop { L43 TM with state := .busy }))) n1
    rw [← hh2]
    clear hh2
    have a2 : At h2 id sv2 S[k] := a.aO (ho2 id (by omega)) (fun j q => ho2 j (by have := iv.dn j (d2 j q); omega))
    have to7 : ∀ j, j < n + 1 + 1 → h2 j = H7 j := fun j hj => (ho2 j (by omega)).trans (pp.kp j (by omega) (by omega) (by omega))
    have rs : Row h2 n [sv] := g0.aO (to7 n (by omega))
    have rz : Row h2 (n + 1) [.int .i64 z] := g1.aO (to7 (n + 1) (by omega))
    have bs : Bytes h2 sv aE := hb.aO (fun j q => (to7 j (by have := hsn j q; omega)).trans (old7 j (hsn j q)))
    obtain ⟨acc, cells, q1, q2, q3, q4⟩ := pp.cl
    simp only [H9, List.getD_cons_zero, dP, Try.f43, Option.getD_some, cC, fgr, List.nil_append, List.append_nil]
    refine bY ⟨rfl, ?_⟩
    simp only [tyr, aM, Nat.reduceAdd, gE]
    rw [aR (eZ a2.row a2.ok)]
    simp only [Nat.reduceAdd, gE]
    rw [aR (rs.one (off := 0) rfl jJ rfl)]
    simp only [hkr, Nat.reduceAdd, gE]
    refine cK hf2 (f89 sv2 sv _ aE h2 n1 a2.s bs) fun v6 h6 n6 r6 w6 hn6 f6' ⟨e6, e7, e8⟩ => ?_
    subst e6; subst e7; subst e8
    cases hq : (S[k].aE == aE) with
    | false =>
      simp only [fgr, unOp, Nat.reduceAdd, gE]
      refine ⟨(by (try simp (disch := first | assumption | omega) only [dX, gF]); repeat' (first | rfl | exact (Bool.or_eq_true _ _).mpr (.inr rfl) | refine (Bool.and_eq_true _ _).mpr ⟨?_, ?_⟩)), _, hlo2, .inr ⟨.inl rfl, _, nS, k, bE _ _ _, rfl, rfl, hpk', ⟨hf2.upd (by omega), h77, hns, fun j hj h1' h2' => by rw [aP _ _ h2', ho2 j h2']; exact pp.kp j hj h1' h2', ⟨acc, cells, by rw [aP _ _ (by omega), ho2 _ (by omega)]; exact q1, q2.aO (fun j q => by rw [aP _ _ (by have := q4 j q; omega), ho2 _ (by have := q4 j q; omega)]), q3.mono (fun j q => q) (fun j q => by rw [aP _ _ (by omega), ho2 _ (by omega)]), q4⟩, pp.sm⟩, fun _ => beq_eq_false_iff_ne.1 hq⟩⟩
    | true =>
      simp only [fgr, unOp, Nat.reduceAdd, gE]
      refine ⟨(by (try simp (disch := first | assumption | omega) only [dX, gF]); repeat' (first | rfl | exact (Bool.or_eq_true _ _).mpr (.inr rfl) | refine (Bool.and_eq_true _ _).mpr ⟨?_, ?_⟩)), ?_⟩
      have hsc : S[k].aE = aE := beq_iff_eq.1 hq
      have sm' : ∀ i (hi : i < S.length), pos true S (iL aE) ≤ i → i < k + 1 → S[i].aE = aE := fun i hi h1' h2' => by
        by_cases e : i = k
        · subst e; exact hsc
        · exact pp.sm i hi h1' (by omega)
      refine bY ⟨rfl, ?_⟩
      simp only [Nat.reduceAdd, gE]
      rw [aR (dY a2.row a2.ok)]
      simp only [Nat.reduceAdd, gE]
      rw [aR (rz.one (off := 0) rfl ti3 rfl)]
      simp only [hkr, Nat.reduceAdd, gE]
      refine cK hf2 (f82 S[k] sv2 a2.ok z h6 n6 hf2) fun v7 h8 n8 r7 w7 hn8 f8 ⟨e7, o8⟩ => ?_
      subst e7
      have hlo8 : h8 (n + 1 + 1 + 1 + 1 + 1 + 1) = some (.loop { L43 TM with state := .busy }) := (o8 _ (by omega)).trans hlo2
      have keep8 : ∀ j, j < n6 → j ≠ n + 1 + 1 + 1 + 1 + 1 + 1 → h8 j = h1 j := fun j hj hne => (o8 j hj).trans (ho2 j hne)
      cases hth : dC S[k] z with
      | false =>
        simp only [j5, cC, fgr, opd, cE, put, nth, aN, Nat.reduceAdd]
        refine ⟨(by (try simp (disch := first | assumption | omega) only [dX, gF]); repeat' (first | rfl | exact (Bool.or_eq_true _ _).mpr (.inr rfl) | refine (Bool.and_eq_true _ _).mpr ⟨?_, ?_⟩)), _, hlo8, .inl ⟨.inl rfl, nS, ⟨f8.upd (by omega), h77, by omega, fun j hj h1' h2' => by rw [aP _ _ h2', keep8 j (by omega) h2']; exact pp.kp j hj h1' h2', ⟨acc, cells, by rw [aP _ _ (by omega), keep8 _ (by omega) (by omega)]; exact q1, ?_, ?_, q4⟩, sm'⟩, bE _ _ _⟩⟩
        · rw [yD hpk' hk, hth]
          exact q2.aO (fun j q => by rw [aP _ _ (by have := q4 j q; omega), keep8 _ (q2.dJ pp.fr q) (by have := q4 j q; omega)])
        · rw [yD hpk' hk, hth]
          exact q3.mono (fun j q => ⟨q.1, by omega, q.2.2⟩) (fun j q => by rw [aP _ _ (by omega), keep8 _ q.2.1 (by omega)])
      | true =>
        simp only [j5, cC, fgr, opd, cE, put, nth, aN, Nat.reduceAdd]
        refine ⟨(by (try simp (disch := first | assumption | omega) only [dX, gF]); repeat' (first | rfl | exact (Bool.or_eq_true _ _).mpr (.inr rfl) | refine (Bool.and_eq_true _ _).mpr ⟨?_, ?_⟩)), ?_⟩
        have a8 : At h8 id sv2 S[k] := a2.aO (o8 id (by omega)) (fun j q => o8 j (by have := iv.dn j (d2 j q); omega))
        have cell : Row h8 (n + 1 + 1) [acc] := ⟨_, (keep8 _ (by omega) (by omega)).trans q1⟩
        refine bY ⟨rfl, ?_⟩
        simp only [gE]
        rw [aR (cell.one (off := 0) rfl fZ rfl)]
        simp only [Nat.reduceAdd, gE]
        rw [aR (dY a8.row a8.ok)]
        simp only [hkr, Nat.reduceAdd, gE]
        have fo8 : bI (only (fun j => decide (aL sv2 = some j)) h8) n8 := fun j hj => by
          unfold only
          split
          · exact f8 j hj
          · rfl
        refine jE (fun j => decide (aL sv2 = some j)) f8 (JE S[k] sv2 a8.ok (only (fun j => decide (aL sv2 = some j)) h8) n8 (a8.s.aO fun j q => fN (decide_eq_true q)) (fun j q => by have := iv.dn j (d2 j q); omega) (ok _ (perm.mem_iff.2 (List.getElem_mem hk))).2 fo8) fun v9 h9 n9 r9 w9 hr9 hn9 f9 ⟨s', e9, b9, i9, o9, m9⟩ hin hout hr hw => ?_
        subst e9
        have old9 : Old h8 h9 n8 := fun j hj => by
          by_cases q : aL sv2 = some j
          · rw [hin j (.inl (decide_eq_true q)), o9 j hj, fN (decide_eq_true q)]
          · exact hout j hj (decide_eq_false q)
        have b9' : Bytes h9 s' S[k].aE := b9.aO (fun j q => hin j (.inr (i9 j q).1))
        simp only [Nat.reduceAdd, sO (aW a8.ok.h a8.ok.b), gE]
        refine lE dZ f9 fun H10 r10 o10 f10 => ?_
        simp only [builtin, Nat.reduceAdd, gE]
        have old10 : Old h8 H10 n8 := fun j hj => by rw [o10 j (by omega), old9 j hj]
        have accl : ∀ j, aL acc = some j → j < n6 := fun j q => q2.dJ pp.fr q
        have acck : ∀ j, aL acc = some j → H10 j = h1 j := fun j q => by rw [old10 j (by have := accl j q; omega), keep8 j (accl j q) (by have := q4 j q; omega)]
        have tl := L8 S (pos true S (iL aE)) k z
        refine cK f10 (lV (i := fA.i) (e := 31) (Q1 := fun v' h' n' => n9 + 1 ≤ n' ∧ bI h' n' ∧ Lst h' 31 70 v' ((pT S (pos true S (iL aE)) k z).length + 1) (cells ++ aH S[k] s') ∧ (aL v' = aL acc ∨ aL v' = some (n9 + 1) ∧ n9 + 1 < n') ∧ ∀ j, j < n9 + 1 → aL acc ≠ some j → h' j = H10 j) (q2.aO acck) (mL (cnt := 1) r10 (by rw [aW a8.ok.h a8.ok.b]; rfl)) u43 u43 dZ (dH b9.kind.2.1) (by decide) (by show 2 * (_ + 1) * 128 ≤ _; omega) (by omega) f10 (fun v' h' n' a b c d e => ⟨a, b, c, d, e⟩)) fun v11 h11 n11 r11 w11 hn11 f11 ⟨_, _, l11, i11, o11⟩ => ?_
        have o111 : ∀ j, j < n8 → aL acc ≠ some j → j ≠ n + 1 + 1 + 1 + 1 + 1 + 1 → j < n6 → h11 j = h1 j := fun j a b c d => by rw [o11 j (by omega) b, old10 j a, keep8 j d c]
        have c11 : h11 (n + 1 + 1) = some (Blk.row (bH.l [acc]) 43) := (o111 _ (by omega) (fun q => by have := q4 _ q; omega) (by omega) (by omega)).trans q1
        have l11n : ∀ j, j < n9 + 1 → aL acc ≠ some j → aL v11 ≠ some j := fun j hj hn q => by
          rcases i11 with w | ⟨w, _⟩
          · rw [w] at q; exact hn q
          · rw [w] at q; injection q with q; omega
        have nw : n + 1 + 1 ∉ w9 := fun q => by have := iv.dn _ (d2 _ (of_decide_eq_true (hw _ q))); omega
        have nr : n + 1 + 1 ∉ r9 := fun q => by have := iv.dn _ (d2 _ (of_decide_eq_true (hr _ q))); omega
        have v11k := l11.rds.kind
        have v11n : ∀ j, aL v11 = some j → nS ≤ j := fun j q => by
          rcases i11 with w | ⟨w, _⟩
          · rw [w] at q; exact q4 j q
          · rw [w] at q; injection q with q; omega
        simp only [Nat.reduceAdd, gE]
        refine mS (Row.fH (v := v11) c11 fZ (by rw [v11k.1]; rfl) (by show 0 + 1 ≤ 1; omega) (by rw [v11k.1]; simp [v11k.2.1])) ?_
        rw [v11k.1, show bV [acc] 0 [v11] = [v11] from rfl]
        simp only [j5, cC, fgr, cE, aN, Nat.reduceAdd]
        refine ⟨(by (try simp (disch := first | assumption | omega) only [dX, gF]); repeat' (first | rfl | exact (Bool.or_eq_true _ _).mpr (.inr rfl) | refine (Bool.and_eq_true _ _).mpr ⟨?_, ?_⟩)), _, (aP _ _ (by omega)).trans ((o11 _ (by omega) (fun q => by have := q4 _ q; omega)).trans ((old10 _ (by omega)).trans hlo8)), .inl ⟨.inl rfl, nS, ⟨(f11.upd (by omega)).upd (by omega), h77, by omega, fun j hj h1' h2' => ?_, ⟨v11, cells ++ aH S[k] s', by rw [aP _ _ (by omega), bE], ?_, ?_, v11n⟩, sm'⟩, bE _ _ _⟩⟩
        · rw [aP _ _ h2', aP _ _ h1', o111 j (by omega) (fun q => by have := q4 j q; omega) h2' (by omega)]; exact pp.kp j hj h1' h2'
        · rw [yD hpk' hk, hth, if_pos rfl, List.length_append]
          exact l11.aO (fun j q => by rw [aP _ _ (by have := v11n j q; omega), aP _ _ (by have := v11n j q; omega)])
        · rw [yD hpk' hk, hth, if_pos rfl]
          have ne2 : ∀ j, nS ≤ j → ∀ (H : Hp) b b2, upd (upd H (n + 1 + 1) b) (n + 1 + 1 + 1 + 1 + 1 + 1) b2 j = H j := fun j hj H b b2 => by rw [aP _ _ (by omega), aP _ _ (by omega)]
          refine (q3.mono (fun j q => ⟨q.1, by omega, l11n j (by omega) q.2.2⟩) (fun j q => by rw [ne2 j q.1, o111 j (by omega) q.2.2 (by omega) q.2.1])).wI (b9'.aO fun j q => ?_) a8.ok (fun j q => ⟨by have := i9 j q; omega, by have := i9 j q; omega, l11n j (by have := i9 j q; omega) (fun w => by have := accl j w; have := i9 j q; omega)⟩) m9
          rw [ne2 j (by have := i9 j q; omega), o11 j (by have := i9 j q; omega) (fun w => by have := accl j w; have := i9 j q; omega), o10 j (by have := i9 j q; omega)]
  · rintro v5 h5 n5 ⟨⟨e5, hh⟩, hn5, f5'⟩
    have fin : ∀ (lo : lU) (nS k : Nat), pos true S (iL aE) ≤ k → P43 H7 n S aE z nS k h5 n5 → (∀ hk : k < S.length, S[k].aE ≠ aE) →
        ∃ acc, Row (upd h5 (n + 1 + 1 + 1 + 1 + 1 + 1) (some (.loop lo))) (n + 1 + 1) [acc] ∧ Old h (upd h5 (n + 1 + 1 + 1 + 1 + 1 + 1) (some (.loop lo))) n ∧ ∃ S k, dW true S ∧ L.Perm S ∧ pos true S (iL aE) ≤ k ∧ (∀ i (hi : i < S.length), pos true S (iL aE) ≤ i → i < k → S[i].aE = aE) ∧ (∀ hk : k < S.length, S[k].aE ≠ aE) ∧ VL (upd h5 (n + 1 + 1 + 1 + 1 + 1 + 1) (some (.loop lo))) n n5 acc (pT S (pos true S (iL aE)) k z) := by
      intro lo nS k hk1 p hk3
      obtain ⟨acc, cells, c1, c2, c3, c4⟩ := p.cl
      have h7 := p.n7
      refine ⟨acc, ⟨_, (aP _ _ (by omega)).trans c1⟩, fun j hj => ?_, S, k, rS, perm, hk1, p.sm, hk3, cells, c2.aO (fun j q => aP _ _ (by have := c4 j q; omega)), c3.mono (fun j q => ⟨by omega, q.2.1, q.2.2⟩) (fun j q => aP _ _ (by omega)), fun j q => ⟨by have := c4 j q; omega, c2.dJ p.fr q⟩⟩
      rw [aP _ _ (by omega), lt j hj h5 p.kp, old7 j hj]
    rcases hh with ⟨nS, p, hlo⟩ | ⟨l, nS, k, hlo, hst, hpe, hk1, p, hk3⟩
    · refine ⟨_, hlo, (fun q => by cases q), .normal, rfl, ?_⟩
      obtain ⟨acc, hrow, res⟩ := fin { L43 TM with state := .exhausted } nS S.length (P6 _ _ _) p (fun hk => absurd hk (Nat.lt_irrefl _))
      simp only [gE]
      rw [aF (hrow.one (off := 0) rfl fZ rfl)]
      simp only [fgr, gE]
      exact res
    · refine ⟨_, hlo, (fun q => by rw [hst] at q; cases q), .exit 0, by rw [hpe], ?_⟩
      obtain ⟨acc, hrow, res⟩ := fin { l with state := .exhausted } nS k hk1 p hk3
      simp only [gE]
      rw [aF (hrow.one (off := 0) rfl fZ rfl)]
      simp only [fgr, gE]
      exact res
theorem uG {o : Bool} : ∀ {A B : List Ver}, dW o A → dW o B → A.Perm B → A = B
  | [], B, _, _, h => (List.nil_perm.1 h).symm
  | a :: A, [], _, _, h => absurd (List.perm_nil.1 h) (by simp)
  | a :: A, b :: B, ra, rb, h => by
    have ha := List.pairwise_cons.1 ra
    have hb := List.pairwise_cons.1 rb
    have e : a = b := by
      by_cases q : a = b
      · exact q
      · have h1 : a ∈ B := (List.mem_cons.1 (h.mem_iff.1 List.mem_cons_self)).resolve_left q
        have h2 : b ∈ A := (List.mem_cons.1 (h.mem_iff.2 List.mem_cons_self)).resolve_left (fun w => q w.symm)
        have c1 := ha.1 b h2
        have c2 := hb.1 a h1
        have := (yK o).lI a b
        omega
    subst e
    rw [uG ha.2 hb.2 ((List.perm_cons a).1 h)]
def MT (a b : Ver) : Int := lK a.aG a.pn b.aG b.pn
theorem TS : oP MT := (iO.on Ver.aG).or (uI.on Ver.pn)
theorem lZ {aG : List UInt8} {pn : Int} {v : Ver} : same aG pn v = true ↔ lK v.aG v.pn aG pn = 0 := by
  unfold same lK orI
  constructor
  · intro h
    simp only [Bool.and_eq_true, decide_eq_true_eq, beq_iff_eq] at h
    rw [h.1, h.2, if_pos (pE _)]
    exact mZ.2 rfl
  · intro h
    split at h
    · rename_i q
      rw [vR _ _ q, mZ.1 h]
      simp
    · contradiction
def atV (L : List Ver) (aG : List UInt8) (pn z : Int) : Option Ver := (L.filter fun v => same aG pn v && dC v z).getLast?
def wT (v : Ver) : Prop := qG v = false ∧ 0 ≤ v.pn
theorem wT.made {v : Ver} (h : wT v) : 0 ≤ v.made := by
  have := h.1
  unfold qG at this
  simp only [Bool.or_eq_false_iff, decide_eq_false_iff_not] at this
  omega
theorem yL {a b : Int} (h : orI a b < 0) : a ≤ 0 := by
  unfold orI at h
  split at h <;> omega
theorem HP {a b : Int} (h : ¬ orI a b < 0) (hn : a ≠ 0) : 0 < a := by
  unfold orI at h
  rw [if_neg hn] at h
  omega
theorem TR {o : Ver → Ver → Int} (q : oP o) {a b t : Ver} (h1 : 0 < o a t) (h2 : o a b ≤ 0) : 0 < o b t := by
  have e1 := q.lI a t
  have e2 := q.lI b t
  rcases Int.lt_or_eq_of_le h2 with w | w
  · have := q.lt t a b (by omega) w; omega
  · have := q.eqr (d := t) w; omega
theorem vD {L : List Ver} {p k : Nat} (hpk : p ≤ k) (P th : Ver → Bool) (h1 : ∀ i (hi : i < L.length), i < p → P L[i] = false) (h2 : ∀ i (hi : i < L.length), p ≤ i → i < k → P L[i] = true) (h3 : ∀ i (hi : i < L.length), k ≤ i → P L[i] = false) :
    ((L.take k).drop p).filter th = L.filter fun v => P v && th v := by
  have e : L = L.take p ++ ((L.take k).drop p ++ L.drop k) := by
    rw [← List.append_assoc]
    have : L.take p = (L.take k).take p := by rw [List.take_take, Nat.min_eq_left hpk]
    rw [this, List.take_append_drop, List.take_append_drop]
  conv => rhs; rw [e]
  rw [List.filter_append, List.filter_append]
  have f1 : (L.take p).filter (fun v => P v && th v) = [] := by
    rw [List.filter_eq_nil_iff]
    intro a ha
    obtain ⟨i, hi, rfl⟩ := List.mem_iff_getElem.1 ha
    rw [List.length_take] at hi
    rw [List.getElem_take, h1 i (by omega) (by omega)]
    simp
  have f3 : (L.drop k).filter (fun v => P v && th v) = [] := by
    rw [List.filter_eq_nil_iff]
    intro a ha
    obtain ⟨i, hi, rfl⟩ := List.mem_iff_getElem.1 ha
    rw [List.length_drop] at hi
    rw [List.getElem_drop, h3 (k + i) (by omega) (by omega)]
    simp
  rw [f1, f3, List.append_nil, List.nil_append]
  refine List.filter_congr fun a ha => ?_
  obtain ⟨i, hi, rfl⟩ := List.mem_iff_getElem.1 ha
  rw [List.length_drop, List.length_take] at hi
  have q := h2 (p + i) (by omega) (by omega) (by omega)
  rw [List.getElem_drop, List.getElem_take, q, Bool.true_and]
end Go.Am.Ytlgebaofkolkoaa
