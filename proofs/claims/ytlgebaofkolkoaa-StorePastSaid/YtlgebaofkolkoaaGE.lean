/- What the statement reaches, gone through; and the abstract machine that goes through it. -/
import Derived.Test.YtlgebaofkolkoaaGD
set_option linter.unusedSimpArgs false
set_option linter.unusedVariables false
set_option linter.defProp false
set_option maxRecDepth 10000
namespace Go.Am.Ytlgebaofkolkoaa
open Go Go.Am Go.Proofs
theorem f122 (h : Hp) (n : Nat) (x : Int) : Wp (bH env (aV env) 122 [.int .i64 x]) h n fun v' h' n' => v' = .bool false ∧ h' = h ∧ n' = n := by
  refine aU ap9 al5 ?_
  simp only [PM, Try.f122, Option.getD_some, List.replicate, fgr, bor, Nat.reduceSub, gE]
def as5 (h : Hp) (n : Nat) (x : Int) := kH (f122 h n x)
theorem f124 (h : Hp) (n : Nat) (x : Int) : Wp (bH env (aV env) 124 [.int .u32 x]) h n fun v' h' n' => v' = .bool false ∧ h' = h ∧ n' = n := by
  refine aU ap8 al4 ?_
  simp only [PL, Try.f124, Option.getD_some, List.replicate, fgr, bor, Nat.reduceSub, gE]
def as4 (h : Hp) (n : Nat) (x : Int) := kH (f124 h n x)
theorem f118 (h : Hp) (n : Nat) (x y : Int) : Wp (bH env (aV env) 118 [.int .i64 x, .int .i64 y]) h n fun v' h' n' => v' = .int .i64 (iO x y) ∧ h' = h ∧ n' = n := by
  refine aU aq1 al7 ?_
  by_cases h1 : x < y
  · simp only [IT, Try.f118, Option.getD_some, List.replicate, fgr, hkr, bor, Nat.reduceAdd, Nat.reduceSub, ↓reduceIte, Int.reduceNeg, as5, iO, h1, gE]
  · by_cases h2 : y < x <;> simp only [IT, Try.f118, Option.getD_some, List.replicate, fgr, hkr, bor, Nat.reduceAdd, Nat.reduceSub, ↓reduceIte, Int.reduceNeg, gt_iff_lt, as5, iO, h1, h2, gE]
theorem f121 (h : Hp) (n : Nat) (x y : Int) : Wp (bH env (aV env) 121 [.int .u32 x, .int .u32 y]) h n fun v' h' n' => v' = .int .i64 (iO x y) ∧ h' = h ∧ n' = n := by
  refine aU aq0 al6 ?_
  by_cases h1 : x < y
  · simp only [IS, Try.f121, Option.getD_some, List.replicate, fgr, hkr, bor, Nat.reduceAdd, Nat.reduceSub, ↓reduceIte, Int.reduceNeg, as4, iO, h1, gE]
  · by_cases h2 : y < x <;> simp only [IS, Try.f121, Option.getD_some, List.replicate, fgr, hkr, bor, Nat.reduceAdd, Nat.reduceSub, ↓reduceIte, Int.reduceNeg, gt_iff_lt, as4, iO, h1, h2, gE]
theorem LU : und env 147 = M.pure (.slice 3) := rfl
theorem z3 : sizeOf env 3 = M.pure 1 := rfl
theorem f63 (id : Nat) (a b : Int) (e : TypeId) (h : Hp) (n : Nat) (hr : h id = some (.row (.l [.int .i64 a, .int .i64 b]) e)) : Wp (bH env (aV env) 63 [.sl id 0 2 (some 2) 1]) h n fun v' h' n' => v' = .int .i64 (orI a b) ∧ h' = h ∧ n' = n := by
  refine aU aa5 ZX ?_
  have hs : Rds h 1 (.sl id 0 2 (some 2) 1) 2 [.int .i64 a, .int .i64 b] := kY hr rfl
  have i0 := hs.idx (E := env) LU z3 (kk := .i64) (z := 0) (j := 0) rfl (by omega) (h' := h) (n' := n)
  have i1 := hs.idx (E := env) LU z3 (kk := .i64) (z := 1) (j := 1) rfl (by omega) (h' := h) (n' := n)
  have l0 := hs.load (E := env) ti3 rfl (k := 0 * 1) (n := n) rfl
  have l1 := hs.load (E := env) ti3 rfl (k := 1 * 1) (n := n) rfl
  have w1 : IntKind.i64.wrap 1 = 1 := by decide
  have w2 : IntKind.i64.wrap 2 = 2 := by decide
  by_cases ha : a = 0
  · subst ha
    by_cases hb : b = 0
    · subst hb
      simp only [yA, Try.f63, Option.getD_some, List.replicate, fgr, builtin, blr, bor, bZ, Nat.reduceSub, Int.cast_ofNat_Int, ↓reduceIte, Int.reduceLT, Int.reduceAdd, bO, aE i0, aE i1, aE l0, aE l1, orI, w1, w2, gE]
    · simp only [yA, Try.f63, Option.getD_some, List.replicate, fgr, builtin, blr, bor, bZ, Nat.reduceSub, Int.cast_ofNat_Int, ↓reduceIte, Int.reduceLT, Int.reduceAdd, bO, aE i0, aE i1, aE l0, aE l1, orI, w1, hb, gE]
  · simp only [yA, Try.f63, Option.getD_some, List.replicate, fgr, builtin, blr, bor, Nat.reduceSub, Int.cast_ofNat_Int, ↓reduceIte, Int.reduceLT, bO, aE i0, aE l0, orI, ha, gE]
structure Ver where
  aI : List UInt8
  pn : Int
  made : Int
  value : Int
  aJ : List UInt8
  cX : Bool
  bX : Int
  by_ : List UInt8
def aS (aI : List UInt8) (pn : Int) : List a9 := aI.map u8 ++ [.int .u32 pn]
def nB (v : Ver) (sv : a9) : List a9 := [.int .i64 v.made, .int .i64 v.value, sv, .bool v.cX, .int .i64 v.bX] ++ v.by_.map u8
def aK (v : Ver) (sv : a9) : List a9 := aS v.aI v.pn ++ nB v sv
theorem bM {aI : List UInt8} {pn : Int} (h : aI.length = 32) : (aS aI pn).length = 33 := by simp [aS, h]
theorem gY {aI : List UInt8} {pn : Int} (h : aI.length = 32) : (aS aI pn)[32]? = some (.int .u32 pn) := by
  unfold aS
  rw [List.getElem?_append_right (by rw [List.length_map]; omega), List.length_map, h]; rfl
theorem sR (aI : List UInt8) (pn : Int) : (aS aI pn).all bB = true := by
  unfold aS
  rw [List.all_append, uU]; rfl
theorem aZ {v : Ver} {sv : a9} (h : v.aI.length = 32) (h2 : v.by_.length = 32) : (aK v sv).length = 70 := by
  unfold aK
  rw [List.length_append, bM h]
  simp [nB, h2]
theorem xF {v : Ver} {sv : a9} (h : v.aI.length = 32) : (aK v sv).take 33 = aS v.aI v.pn := by
  unfold aK
  rw [List.take_append_of_le_length (by rw [bM h]; omega), List.take_of_length_le (by rw [bM h]; omega)]
theorem jH {v : Ver} {sv : a9} (h : v.aI.length = 32) (k : Nat) : (aK v sv)[33 + k]? = (nB v sv)[k]? := by
  unfold aK
  rw [List.getElem?_append_right (by rw [bM h]; omega), bM h]
  congr 1; omega
def qM (h1 : List UInt8) (n1 : Int) (h2 : List UInt8) (n2 : Int) : Int := orI (Lib.compareBytes h1 h2) (iO n1 n2)
def eR (v w : Ver) : Int := orI (qM v.aI v.pn w.aI w.pn) (iO v.made w.made)
def HD (v w : Ver) : Int := orI (Lib.compareBytes v.aJ w.aJ) (eR v w)
theorem u25 : und env 25 = M.pure (.array 32 5) := rfl
theorem z5 : sizeOf env 5 = M.pure 1 := rfl
theorem SB {id : Nat} {h' : Hp} {n' : Nat} : Rd (slice env 25 (.ptr id 0) none none none) h' n' [] (.sl id 0 32 (some 32) 1) := by
  simp only [slice, u25, z5, aB, cL, Nat.zero_mul, Nat.add_zero, Nat.sub_zero]
  exact Rd.pure _
theorem y8 {h : Hp} {id : Nat} {xs : List a9} {l : List UInt8} (hr : Row h id xs) (hl : l.length = 32) (ht : xs.take 32 = l.map u8) (hx : 32 ≤ xs.length) : Bytes h (.sl id 0 32 (some 32) 1) l := by
  obtain ⟨e, he⟩ := hr
  have := Bytes.sl (h := h) id 0 (some 32) (.l xs) e l he (by show 0 + l.length ≤ xs.length; omega) (fun j hj => by
    have hj2 : j < xs.length := by omega
    rw [Nat.zero_add, bG.wP hj2]
    have h1 : (xs.take 32)[j]? = (l.map u8)[j]? := by rw [ht]
    rw [List.getElem?_take, if_pos (by omega), List.getElem?_eq_getElem hj2, List.getElem?_map, List.getElem?_eq_getElem hj] at h1
    injection h1)
  rwa [hl] at this
theorem f117 (h1 h2 : List UInt8) (n1 n2 : Int) (l1 : h1.length = 32) (l2 : h2.length = 32) (h : Hp) (n : Nat) (hf : aY h n) :
    Wp (bH env (aV env) 117 [.agg (aS h1 n1), .agg (aS h2 n2)]) h n fun v' h' n' => v' = .int .i64 (qM h1 n1 h2 n2) ∧ Old h h' n := by
  refine aU aq2 al8 ?_
  simp only [PN, Try.f117, Option.getD_some, List.replicate, Nat.reduceAdd, Nat.reduceSub, gE]
  refine cG (v := .agg (aS h1 n1)) gG rfl hf fun H1 r1 o1 f1 => ?_
  simp only [gE]
  refine cG (v := .agg (aS h2 n2)) gG rfl f1 fun H2 r2 o2 f2 => ?_
  simp only [fgr, gE]
  have r1' : Row H2 n (aS h1 n1) := r1.aM (o2 n (by omega))
  have r2' : Row H2 (n + 1) (aS h2 n2) := r2
  have b1 := y8 r1' l1 (by unfold aS; rw [List.take_append_of_le_length (by simp [l1]), List.take_of_length_le (by simp [l1])]) (by rw [bM l1]; omega)
  have b2 := y8 r2' l2 (by unfold aS; rw [List.take_append_of_le_length (by simp [l2]), List.take_of_length_le (by simp [l2])]) (by rw [bM l2]; omega)
  refine bW ⟨rfl, ?_⟩
  simp only [tyr, opt, aR, gE]
  rw [aW SB]
  simp only [tyr, opt, aR, Nat.reduceAdd, gE]
  rw [aW SB]
  simp only [hkr, Nat.reduceAdd, gE]
  rw [aW (yS b1 b2)]
  simp only [tyr, aR, Nat.reduceAdd, gE]
  rw [aW (r1'.one (gY l1) pK rfl)]
  simp only [tyr, aR, Nat.reduceAdd, gE]
  rw [aW (r2'.one (gY l2) pK rfl)]
  simp only [hkr, Nat.reduceAdd, gE]
  refine qG f2 (f121 (fun _ => none) _ n1 n2) (f121 H2 _ n1 n2) fun v3 h3 n3 hn3 f3 ⟨e1, e2, e3⟩ => ?_
  subst e1; subst e2; subst e3
  simp only [tyr, cel, Nat.reduceAdd, Nat.beq, buildSlice, eY, fill, List.take_succ_cons, List.take_zero, List.drop_succ_cons, List.drop_zero, Nat.ble, Nat.one_mul, gE]
  refine jO ti3 f3 fun H4 r4 o4 f4 => ?_
  simp only [hkr, Nat.reduceAdd, gE]
  refine cU f4 (f63 _ _ _ _ _ _ r4) fun v5 h5 n5 r5 w5 hn5 f5 ⟨e1, e2, e3⟩ => ?_
  subst e1; subst e2; subst e3
  simp only [fgr, Nat.reduceAdd, gE]
  refine ⟨(by (try simp (disch := first | assumption | omega) only [cJ, gF]); repeat' (first | rfl | exact (Bool.or_eq_true _ _).mpr (.inr rfl) | refine (Bool.and_eq_true _ _).mpr ⟨?_, ?_⟩)), ?_⟩
  exact ⟨rfl, fun j hj => by rw [o4 j (by omega), o2 j (by omega), o1 j (by omega)]⟩
structure Ver.Ok (v : Ver) : Prop where
  h : v.aI.length = 32
  b : v.by_.length = 32
theorem iL {h : Hp} {n id : Nat} {v : Ver} {sv : a9} (hr : Row h id (aK v sv)) (ho : v.Ok) : Rd (load env 28 (.ptr id 0)) h n [id] (.agg (aS v.aI v.pn)) := by
  have := hr.agg (E := env) (n := n) (off := 0) gG rfl (by rw [aZ ho.h ho.b]; decide)
  rw [List.drop_zero] at this
  have e : (aK v sv).take 33 = aS v.aI v.pn := xF ho.h
  exact e ▸ this
theorem dO {h : Hp} {n id : Nat} {v : Ver} {sv : a9} (hr : Row h id (aK v sv)) (ho : v.Ok) : Rd (load env 31 (.ptr id 0)) h n [id] (.agg (aK v sv)) := hr.eF cY rfl (aZ ho.h ho.b)
theorem eX {h : Hp} {n id : Nat} {v : Ver} {sv : a9} (hr : Row h id (aK v sv)) (ho : v.Ok) : Rd (load env 3 (.ptr id 33)) h n [id] (.int .i64 v.made) := hr.one (jH ho.h 0) ti3 rfl
theorem jY {h : Hp} {n id : Nat} {v : Ver} {sv : a9} (hr : Row h id (aK v sv)) (ho : v.Ok) : Rd (load env 2 (.ptr id 34)) h n [id] (.int .i64 v.value) := hr.one (jH ho.h 1) ti2 rfl
theorem gS {h : Hp} {n id : Nat} {v : Ver} {sv : a9} (hr : Row h id (aK v sv)) (ho : v.Ok) : Rd (load env 29 (.ptr id 35)) h n [id] sv := hr.one (jH ho.h 2) uY rfl
theorem DK {h : Hp} {n id : Nat} {v : Ver} {sv : a9} (hr : Row h id (aK v sv)) (ho : v.Ok) : Rd (load env 4 (.ptr id 36)) h n [id] (.bool v.cX) := hr.one (jH ho.h 3) ti4 rfl
theorem dB {h : Hp} {n id : Nat} {v : Ver} {sv : a9} (hr : Row h id (aK v sv)) (ho : v.Ok) : Rd (load env 3 (.ptr id 37)) h n [id] (.int .i64 v.bX) := hr.one (jH ho.h 4) ti3 rfl
theorem FW {h : Hp} {n id : Nat} {v : Ver} {sv : a9} (hr : Row h id (aK v sv)) (ho : v.Ok) : Rd (load env 25 (.ptr id 38)) h n [id] (.agg (v.by_.map u8)) := by
  have := hr.agg (E := env) (n := n) (off := 38) nC rfl (by rw [aZ ho.h ho.b]; decide)
  have e : ((aK v sv).drop 38).take 32 = v.by_.map u8 := by
    unfold aK
    rw [List.drop_append, List.drop_eq_nil_of_le (by rw [bM ho.h]; omega), bM ho.h]
    show (([] : List a9) ++ v.by_.map u8).take 32 = _
    rw [List.nil_append, List.take_of_length_le (by simp [ho.b])]
  exact e ▸ this
theorem f107 (v w : Ver) (sv sw : a9) (ov : v.Ok) (ow : w.Ok) (h : Hp) (n : Nat) (hf : aY h n) :
    Wp (bH env (aV env) 107 [.agg (aK v sv), .agg (aK w sw)]) h n fun v' h' n' => v' = .int .i64 (eR v w) ∧ Old h h' n := by
  refine aU aq8 am4 ?_
  simp only [PU, Try.f107, Option.getD_some, List.replicate, Nat.reduceAdd, Nat.reduceSub, gE]
  refine cG (v := .agg (aK v sv)) cY rfl hf fun H1 r1 o1 f1 => ?_
  simp only [gE]
  refine cG (v := .agg (aK w sw)) cY rfl f1 fun H2 r2 o2 f2 => ?_
  simp only [fgr, gE]
  have r1' : Row H2 n (aK v sv) := r1.aM (o2 n (by omega))
  have r2' : Row H2 (n + 1) (aK w sw) := r2
  refine bW ⟨rfl, ?_⟩
  simp only [tyr, aR, gE]
  rw [aW (iL r1' ov)]
  simp only [tyr, aR, Nat.reduceAdd, gE]
  rw [aW (iL r2' ow)]
  simp only [hkr, Nat.reduceAdd, gE]
  refine qG f2 (f117 v.aI w.aI v.pn w.pn ov.h ow.h (fun _ => none) _ (fun _ _ => rfl)) (f117 v.aI w.aI v.pn w.pn ov.h ow.h H2 _ f2) fun v3 h3 n3 hn3 f3 ⟨e3, o3⟩ => ?_
  subst e3
  simp only [tyr, aR, Nat.reduceAdd, gE]
  have r1' := r1'.aM (o3 n (by omega))
  have r2' := r2'.aM (o3 (n + 1) (by omega))
  rw [aW (eX r1' ov)]
  simp only [tyr, aR, Nat.reduceAdd, gE]
  rw [aW (eX r2' ow)]
  simp only [hkr, Nat.reduceAdd, gE]
  refine qG f3 (f118 (fun _ => none) _ v.made w.made) (f118 h3 _ v.made w.made) fun v3 h3 n3 hn3 f3 ⟨e1, e2, e3⟩ => ?_
  subst e1; subst e2; subst e3
  simp only [tyr, cel, Nat.reduceAdd, Nat.beq, buildSlice, eY, fill, List.take_succ_cons, List.take_zero, List.drop_succ_cons, List.drop_zero, Nat.ble, Nat.one_mul, gE]
  refine jO ti3 f3 fun H4 r4 o4 f4 => ?_
  simp only [hkr, Nat.reduceAdd, gE]
  refine cU f4 (f63 _ _ _ _ _ _ r4) fun v5 h5 n5 r5 w5 hn5 f5 ⟨e1, e2, e3⟩ => ?_
  subst e1; subst e2; subst e3
  simp only [fgr, Nat.reduceAdd, gE]
  refine ⟨(by (try simp (disch := first | assumption | omega) only [cJ, gF]); repeat' (first | rfl | exact (Bool.or_eq_true _ _).mpr (.inr rfl) | refine (Bool.and_eq_true _ _).mpr ⟨?_, ?_⟩)), ?_⟩
  exact ⟨rfl, fun j hj => by rw [o4 j (by omega), o3 j (by omega), o2 j (by omega), o1 j (by omega)]⟩
theorem t29 : und env 29 = M.pure (.slice 5) := rfl
theorem t9 : und env 9 = M.pure .string := rfl
theorem t5 : und env 5 = M.pure (.int .u8) := rfl
theorem s5 : sizeOf env 5 = M.pure 1 := rfl
structure At (h : Hp) (id : Nat) (sv : a9) (v : Ver) : Prop where
  row : Row h id (aK v sv)
  s : Bytes h sv v.aJ
  ok : v.Ok
theorem At.aM {h h' : Hp} {id : Nat} {sv : a9} {v : Ver} (a : At h id sv v) (hi : h' id = h id) (hs : ∀ j, aP sv = some j → h' j = h j) : At h' id sv v := ⟨a.row.aM hi, a.s.aM hs, a.ok⟩
structure AtN (h : Hp) (n : Nat) (id : Nat) (sv : a9) (v : Ver) : Prop extends At h id sv v where
  idn : id < n
  sn : ∀ j, aP sv = some j → j < n
theorem AtN.old {h h' : Hp} {n n' : Nat} {id : Nat} {sv : a9} {v : Ver} (a : AtN h n id sv v) (hn : n ≤ n') (ho : Old h h' n) : AtN h' n' id sv v :=
  ⟨a.toAt.aM (ho id a.idn) (fun j hj => ho j (a.sn j hj)), by have := a.idn; omega, fun j hj => by have := a.sn j hj; omega⟩
theorem f84 (a b : Nat) (sa sb : a9) (v w : Ver) (h : Hp) (n : Nat) (ha : AtN h n a sa v) (hb : AtN h n b sb w) (hf : aY h n) :
    Wp (bH env (aV env) 84 [.ptr a 0, .ptr b 0]) h n fun v' h' n' => v' = .int .i64 (eR v w) ∧ Old h h' n := by
  refine aU aK9 az1 ?_
  simp only [YI, Try.f84, Option.getD_some, List.replicate, fgr, Nat.reduceAdd, Nat.reduceSub, gE]
  refine bW ⟨rfl, ?_⟩
  simp only [Nat.reduceAdd, gE]
  rw [aW (dO ha.row ha.ok)]
  simp only [Nat.reduceAdd, gE]
  rw [aW (dO hb.row hb.ok)]
  simp only [hkr, Nat.reduceAdd, gE]
  refine cU hf (f107 v w sa sb ha.ok hb.ok h n hf) fun v5 h5 n5 r5 w5 hn5 f5 ⟨e1, o1⟩ => ?_
  subst e1
  simp only [fgr, Nat.reduceAdd, gE]
  refine ⟨(by (try simp (disch := first | assumption | omega) only [cJ, gF]); repeat' (first | rfl | exact (Bool.or_eq_true _ _).mpr (.inr rfl) | refine (Bool.and_eq_true _ _).mpr ⟨?_, ?_⟩)), ?_⟩
  exact o1
theorem f85 (a b : Nat) (sa sb : a9) (v w : Ver) (h : Hp) (n : Nat) (ha : AtN h n a sa v) (hb : AtN h n b sb w) (hf : aY h n) :
    Wp (bH env (aV env) 85 [.ptr a 0, .ptr b 0]) h n fun v' h' n' => v' = .int .i64 (HD v w) ∧ Old h h' n := by
  refine aU aK8 az0 ?_
  simp only [YH, Try.f85, Option.getD_some, List.replicate, fgr, Nat.reduceAdd, Nat.reduceSub, gE]
  refine bW ⟨rfl, ?_⟩
  simp only [tyr, aR, Nat.reduceAdd, gE]
  rw [aW (gS ha.row ha.ok)]
  simp only [tyr, aR, Nat.reduceAdd, gE]
  rw [aW (gS hb.row hb.ok)]
  simp only [hkr, Nat.reduceAdd, gE]
  rw [aW (yS ha.s hb.s)]
  simp only [hkr, Nat.reduceAdd, gE]
  refine cU hf (f84 a b sa sb v w h n ha hb hf) fun v5 h5 n5 r5 w5 hn5 f5 ⟨e1, o1⟩ => ?_
  subst e1
  simp only [tyr, cel, Nat.reduceAdd, Nat.beq, buildSlice, eY, fill, List.take_succ_cons, List.take_zero, List.drop_succ_cons, List.drop_zero, Nat.ble, Nat.one_mul, gE]
  refine jO ti3 f5 fun H4 r4 o4 f4 => ?_
  simp only [hkr, Nat.reduceAdd, gE]
  refine cU f4 (f63 _ _ _ _ _ _ r4) fun v6 h6 n6 r6 w6 hn6 f6 ⟨e1, e2, e3⟩ => ?_
  subst e1; subst e2; subst e3
  simp only [fgr, Nat.reduceAdd, gE]
  refine ⟨(by (try simp (disch := first | assumption | omega) only [cJ, gF]); repeat' (first | rfl | exact (Bool.or_eq_true _ _).mpr (.inr rfl) | refine (Bool.and_eq_true _ _).mpr ⟨?_, ?_⟩)), ?_⟩
  exact ⟨rfl, fun j hj => by rw [o4 j (by omega), o1 j hj]⟩
def dW (v : Ver) (z : Int) : Bool := decide (v.made ≤ z) && (decide (v.bX = 0) || decide (z < v.bX))
theorem f82 (v : Ver) (sv : a9) (ov : v.Ok) (z : Int) (h : Hp) (n : Nat) (hf : aY h n) :
    Wp (bH env (aV env) 82 [.agg (aK v sv), .int .i64 z]) h n fun v' h' n' => v' = .bool (dW v z) ∧ Old h h' n := by
  refine aU aL1 az3 ?_
  simp only [YK, Try.f82, Option.getD_some, List.replicate, Nat.reduceAdd, Nat.reduceSub, gE]
  refine cG (v := .agg (aK v sv)) cY rfl hf fun H1 r1 o1 f1 => ?_
  simp only [tyr, fgr, bor, aR, aE (eX r1 ov), gE]
  by_cases c1 : v.made ≤ z
  · by_cases c2 : v.bX = 0
    · simp only [tyr, fgr, bor, bE, aR, aE (dB r1 ov), c1, c2, gE]
      exact ⟨by simp [dW, c1, c2], fun j hj => o1 j (by omega)⟩
    · by_cases c3 : z < v.bX
      · simp only [tyr, fgr, bor, bE, aR, gt_iff_lt, aE (dB r1 ov), c1, c2, c3, gE]
        exact ⟨by simp [dW, c1, c2, c3], fun j hj => o1 j (by omega)⟩
      · simp only [tyr, fgr, bor, bE, aR, gt_iff_lt, aE (dB r1 ov), c1, c2, c3, gE]
        exact ⟨by simp [dW, c1, c2, c3], fun j hj => o1 j (by omega)⟩
  · simp only [fgr, bE, c1, gE]
    exact ⟨by simp [dW, c1], fun j hj => o1 j (by omega)⟩
theorem f90 (v : a9) (l : List UInt8) (h : Hp) (n : Nat) (hb : Bytes h v l) (hl : l.length ≤ 1000000) (hf : aY h n) : Wp (bH env (aV env) 90 [v]) h n fun v' h' n' => Bytes h' v' l ∧ (∀ j, aP v' = some j → n ≤ j ∧ j < n') ∧ Old h h' n := by
  refine aU aK3 ay5 ?_
  simp only [YC, Try.f90, Option.getD_some, List.replicate, fgr, Nat.reduceSub, hb.EN t29, gE]
  cases hnil : lX v with
  | true =>
    simp only [fgr, gE]
    have := hb.nil.2 hnil
    subst this
    exact ⟨.aN, (fun j hj => by cases hj), Old.refl _ _⟩
  | false =>
    simp only [tyr, builtin, newRow, buildSlice, eY, fill, Nat.ble, gE]
    refine dP (i := ⟨.int .u8, 1, 1, .int .u8 0⟩) (e := 5) (cnt := 0) (xs := []) (C1 (aO _ _ _) rfl (fun k hk => by injection hk with hk; exact hk.symm)) ((hb.aM fun j hj => ?_).rds) t29 t29 ti5 (uU l) (by decide) (by show 2 * (0 + l.length) * 1 ≤ _; omega) (by omega) hf.new ?_
    · rw [aH]
      intro e
      cases hb with
      | aN => cases hj
      | isl => cases hj
      | sl id off cap c e2 l hh hs hc => injection hj with hj; subst hj; subst e; rw [hf _ (Nat.le_refl _)] at hh; cases hh
    · intro v' h' n' hn hf' ho hid hold
      simp only [fgr, gE]
      rw [List.nil_append] at ho
      refine ⟨ho.rds.bytes (by intro e; subst e; cases ho), fun j hj => ?_, fun j hj => ?_⟩
      · rcases hid with q | ⟨q, q2⟩
        · rw [q] at hj; injection hj with hj; subst hj; exact ⟨Nat.le_refl _, by omega⟩
        · rw [q] at hj; injection hj with hj; omega
      · rw [hold j (by omega) (fun e => by injection e with e; omega), aH _ _ (by omega)]
theorem c8 {v : Ver} {sv : a9} (h1 : bB sv = true) : (aK v sv).all bB = true := by
  unfold aK nB
  rw [List.all_append, sR, List.all_append, uU]
  simp only [List.all_cons, List.all_nil, h1, Bool.and_true]
  rfl
theorem zZ {v : Ver} {sv s' : a9} (h : v.aI.length = 32) : bV (aK v sv) 35 [s'] = aK v s' := by
  unfold bV aK
  have hl := bM (pn := v.pn) h
  rw [List.take_append, List.drop_append, hl, List.take_of_length_le (by rw [hl]; omega), List.drop_eq_nil_of_le (by rw [hl]; simp)]
  simp only [List.length_singleton, nB, List.append_assoc]
  rfl
theorem f77 (v : Ver) (sv : a9) (ov : v.Ok) (h : Hp) (n : Nat) (hs : Bytes h sv v.aJ) (hsn : ∀ j, aP sv = some j → j < n) (hl : v.aJ.length ≤ 1000000) (hf : aY h n) :
    Wp (bH env (aV env) 77 [.agg (aK v sv)]) h n fun v' h' n' => ∃ s', v' = .agg (aK v s') ∧ Bytes h' s' v.aJ ∧ (∀ j, aP s' = some j → n ≤ j ∧ j < n') ∧ Old h h' n := by
  refine aU aL6 az8 ?_
  simp only [YP, Try.f77, Option.getD_some, List.replicate, Nat.reduceSub, gE]
  refine cG (v := .agg (aK v sv)) cY rfl hf fun H1 r1 o1 f1 => ?_
  simp only [gE]
  rw [bU cY rfl]
  obtain ⟨H2, hH2⟩ : ∃ H2, H2 = upd H1 (n + 1) (some (Blk.row (bG.l eK.i.zero.cells) 31)) := ⟨_, rfl⟩
  have f2 : aY H2 (n + 1 + 1) := by rw [hH2]; exact f1.new
  have o2 : ∀ j, j ≠ n + 1 → H2 j = H1 j := fun j hj => by rw [hH2, aH _ _ hj]
  have r2 : H2 (n + 1) = some (Blk.row (bG.l eK.i.zero.cells) 31) := by rw [hH2, aO]
  show Ops env 77 none _ _ _ _ _ (upd H1 (n + 1) (some (Blk.row (bG.l eK.i.zero.cells) 31))) _
  rw [← hH2]
  clear hH2
  have r1 := r1.aM (o2 n (by omega))
  have old2 : Old h H2 n := fun j hj => by rw [o2 j (by omega), o1 j (by omega)]
  simp only [tyr, fgr, aR, gE]
  rw [aE (gS r1 ov)]
  simp only [hkr, gE]
  refine aQ f2 (f90 sv v.aJ H2 _ (hs.aM fun j hj => old2 j (hsn j hj)) hl f2) fun s' H3 n3 hn3 f3 ⟨b3, i3, o3⟩ => ?_
  simp only [tyr, aR, gE]
  obtain ⟨e1, he1⟩ := r1.aM (o3 n (by omega))
  rw [cR (Row.write he1 uY (by rw [b3.kind.1]; rfl) (by show 35 + 1 ≤ (aK v sv).length; rw [aZ ov.h ov.b]; decide) (by rw [b3.kind.1]; simp [b3.kind.2.1]))]
  rw [b3.kind.1, show bV (a9.agg (aK v sv)).cells 35 [s'] = aK v s' from zZ ov.h]
  simp only [fgr, gE]
  have f4 : aY (upd H3 n (some (Blk.row (bG.l (aK v s')) e1))) n3 := f3.upd (by omega)
  have r4 : Row (upd H3 n (some (Blk.row (bG.l (aK v s')) e1))) n (aK v s') := Row.new _ _ _ _
  rw [aE (dO r4 ov)]
  simp only [gE]
  have q4 : (upd H3 n (some (Blk.row (bG.l (aK v s')) e1))) (n + 1) = some (Blk.row (bG.l eK.i.zero.cells) 31) := by rw [aH _ _ (by omega), o3 _ (by omega), r2]
  rw [cR (Row.write q4 cY (v := .agg (aK v s')) (aZ ov.h ov.b) (by decide) (c8 b3.kind.2.1))]
  rw [dC (by show (aK v s').length = _; rw [aZ ov.h ov.b]; rfl)]
  have hne : ∀ j, aP s' = some j → j ≠ n ∧ j ≠ n + 1 := fun j hj => by have := i3 j hj; omega
  have r5 : Row (upd (upd H3 n (some (Blk.row (bG.l (aK v s')) e1))) (n + 1) (some (Blk.row (bG.l (a9.agg (aK v s')).cells) 31))) (n + 1) (aK v s') := Row.new _ _ _ _
  simp only [bI, fgr, bP, nth, aF, cel, true_and]
  refine dX (dO r5 ov) ?_
  refine aT.2 ⟨s', rfl, b3.aM fun j hj => ?_, fun j hj => by have := i3 j hj; omega, fun j hj => ?_⟩
  · rw [aH _ _ (hne j hj).2, aH _ _ (hne j hj).1]
  · rw [aH _ _ (by omega), aH _ _ (by omega), o3 j (by omega), old2 j hj]
theorem f73 (x : Nat) (cs : List a9) (b : Bool) (h : Hp) (n : Nat) (hr : Row h x cs) (hc : cs[0]? = some (.bool b)) : Wp (bH env (aV env) 73 [.ptr x 0]) h n fun v' h' n' => v' = .bool (!b) ∧ h' = h ∧ n' = n := by
  refine aU aM0 aA2 ?_
  simp only [YT, Try.f73, Option.getD_some, List.replicate, tyr, fgr, bor, bL, gK, unOp, bE, aR, bS, equal, gN, eN, eO, Nat.reduceSub, aE (hr.one hc ti4 rfl), gE]
theorem f75 (h : Hp) (n : Nat) (v : a9) : Wp (bH env (aV env) 75 [v]) h n fun v' h' n' => v' = .bool true ∧ h' = h ∧ n' = n := by
  refine aU aL8 aA0 ?_
  simp only [YR, Try.f75, Option.getD_some, List.replicate, fgr, Nat.reduceSub, gE]
structure Ps (h : Hp) (D : Nat → Prop) (xs : List a9) (vs : List Ver) : Prop where
  len : xs.length = vs.length
  at_ : ∀ (j : Nat) x v, xs[j]? = some x → vs[j]? = some v → ∃ id sv, x = .ptr id 0 ∧ At h id sv v ∧ D id ∧ ∀ i, aP sv = some i → D i
theorem Ps.mono {h h' : Hp} {D D' : Nat → Prop} {xs : List a9} {vs : List Ver} (p : Ps h D xs vs) (hd : ∀ j, D j → D' j) (hk : ∀ j, D j → h' j = h j) : Ps h' D' xs vs :=
  ⟨p.len, fun j x v hx hv => by
    obtain ⟨id, sv, e, a, d1, d2⟩ := p.at_ j x v hx hv
    exact ⟨id, sv, e, a.aM (hk id d1) (fun i hi => hk i (d2 i hi)), hd id d1, fun i hi => hd i (d2 i hi)⟩⟩
theorem Ps.get {h : Hp} {D : Nat → Prop} {xs : List a9} {vs : List Ver} (p : Ps h D xs vs) {j : Nat} (hj : j < vs.length) : ∃ id sv, xs[j]? = some (.ptr id 0) ∧ At h id sv vs[j] ∧ D id ∧ ∀ i, aP sv = some i → D i := by
  have hx : j < xs.length := by rw [p.len]; exact hj
  obtain ⟨id, sv, e, a⟩ := p.at_ j _ _ (List.getElem?_eq_getElem hx) (List.getElem?_eq_getElem hj)
  exact ⟨id, sv, by rw [List.getElem?_eq_getElem hx, e], a⟩
theorem Ps.cells {h : Hp} {D : Nat → Prop} {xs : List a9} {vs : List Ver} (p : Ps h D xs vs) : xs.all bB = true := by
  refine ad5 fun j x hx => ?_
  have hj := (List.getElem?_eq_some_iff.1 hx).1
  obtain ⟨id, sv, rfl, _⟩ := p.at_ j x _ hx (List.getElem?_eq_getElem (by rw [← p.len]; exact hj))
  rfl
def iD : Bool → Ver → Ver → Int
  | false => eR
  | true => HD
def fid : Bool → Nat
  | false => 84
  | true => 85
def fo (o : Bool) : a9 := .fn (.func (fid o)) [] []
theorem hkO (o : Bool) (args : List a9) : fX env (aV env) (fid o) args = bH env (aV env) (fid o) args := by cases o <;> rfl
theorem fO (o : Bool) (a b : Nat) (sa sb : a9) (v w : Ver) (h : Hp) (n : Nat) (ha : AtN h n a sa v) (hb : AtN h n b sb w) (hf : aY h n) :
    Wp (bH env (aV env) (fid o) [.ptr a 0, .ptr b 0]) h n fun v' h' n' => v' = .int .i64 (iD o v w) ∧ Old h h' n := by
  cases o
  · exact f84 a b sa sb v w h n ha hb hf
  · exact f85 a b sa sb v w h n ha hb hf
theorem u95 : und env 95 = M.pure (.slice 128) := rfl
theorem rU : sizeOf env 128 = M.pure 1 := rfl
theorem mid (i j : Nat) (h : i + j ≤ 1000000000) : IntKind.i64.wrap (Int.fdiv (IntKind.u64.wrap (IntKind.i64.wrap ((i : Int) + (j : Int)))) (2 ^ min (Int.toNat 1) IntKind.u64.bits)) = (((i + j) / 2 : Nat) : Int) := by
  have e1 : IntKind.i64.wrap ((i : Int) + (j : Int)) = (i : Int) + (j : Int) := w64 (by omega) (by omega)
  have e2 : IntKind.u64.wrap ((i : Int) + (j : Int)) = (i : Int) + (j : Int) := au9 (by omega) (by omega)
  have e3 : ((2 : Int) ^ min (Int.toNat 1) IntKind.u64.bits) = 2 := by decide
  have e4 : ((i : Int) + (j : Int)).fdiv 2 = (((i + j) / 2 : Nat) : Int) := by rw [Int.fdiv_eq_ediv_of_nonneg _ (by decide)]; omega
  rw [e1, e2, e3, e4]
  exact w64 (by omega) (by omega)
theorem TG (Q : dI) (ks : List Kf) (o : Bool) (v : a9) (t : Nat) (st : a9) (tv : Ver) (cnt : Nat) (xs : List a9) (vs : List Ver) (D : Nat → Prop) (h0 : Hp) (n0 : Nat) (hc : cnt ≤ 100000000) (hv : Rds h0 1 v cnt xs) (hvn : ∀ j, aP v = some j → j < n0) (hp : Ps h0 D xs vs) (hD : ∀ j, D j → j < n0) (ht : AtN h0 n0 t st tv)
    (hmono : ∀ (a b : Nat) (ha : a < vs.length) (hb : b < vs.length), a < b → iD o vs[b] tv < 0 → iD o vs[a] tv < 0)
    (hT : ∀ (p : Nat) (h : Hp) (n : Nat) (x6 x7 x11 x17 x31 : a9), p ≤ cnt → (∀ k (hk : k < vs.length), k < p → iD o vs[k] tv < 0) → (∀ k (hk : k < vs.length), p ≤ k → ¬ iD o vs[k] tv < 0) → n0 ≤ n → aY h n → Old h0 h n0 →
      cV env 114 none Q ks (.exit 0) (v :: .ptr t 0 :: fo o :: a9.aA :: a9.aA :: a9.aA :: x6 :: x7 :: .int .i64 (cnt : Nat) :: .int .i64 (p : Nat) :: .int .i64 (p : Nat) :: x11 :: a9.aA :: a9.aA :: a9.aA :: a9.aA :: a9.aA :: x17 :: a9.aA :: a9.aA :: a9.aA :: a9.aA :: a9.aA :: a9.aA :: a9.aA :: a9.aA :: a9.aA :: a9.aA :: a9.aA :: a9.aA :: a9.aA :: x31 :: a9.aA :: a9.aA :: a9.aA :: a9.aA :: a9.aA :: a9.aA :: a9.aA :: a9.aA :: a9.aA :: a9.aA :: a9.aA :: a9.aA :: a9.aA :: a9.aA :: a9.aA :: a9.aA :: a9.aA :: []) h n) :
    ∀ (m i j : Nat) (h : Hp) (n : Nat) (x6 x7 x11 x17 x31 : a9), j - i ≤ m → i ≤ j → j ≤ cnt → (∀ k (hk : k < vs.length), k < i → iD o vs[k] tv < 0) → (∀ k (hk : k < vs.length), j ≤ k → ¬ iD o vs[k] tv < 0) → n0 ≤ n → aY h n → Old h0 h n0 →
      Run env 114 none Q (.loop wY) ks (v :: .ptr t 0 :: fo o :: a9.aA :: a9.aA :: a9.aA :: x6 :: x7 :: .int .i64 (cnt : Nat) :: .int .i64 (i : Nat) :: .int .i64 (j : Nat) :: x11 :: a9.aA :: a9.aA :: a9.aA :: a9.aA :: a9.aA :: x17 :: a9.aA :: a9.aA :: a9.aA :: a9.aA :: a9.aA :: a9.aA :: a9.aA :: a9.aA :: a9.aA :: a9.aA :: a9.aA :: a9.aA :: a9.aA :: x31 :: a9.aA :: a9.aA :: a9.aA :: a9.aA :: a9.aA :: a9.aA :: a9.aA :: a9.aA :: a9.aA :: a9.aA :: a9.aA :: a9.aA :: a9.aA :: a9.aA :: a9.aA :: a9.aA :: a9.aA :: []) h n := by
  intro m
  have hcl : cnt = vs.length := by have := hv.length; have := hp.len; omega
  induction m with
  | zero =>
    intro i j h n x6 x7 x11 x17 x31 hm hij hjc h1 h2 hn hf ho
    have : i = j := by omega
    subst this
    rw [bO]
    have hcc : ¬ ((i : Int) < (i : Int)) := by omega
    simp only [wY, bC, Try.f114, Option.getD_some, fgr, bor, List.getD_cons_zero, hcc, gE]
    exact hT i h n _ _ _ _ _ hjc h1 h2 hn hf ho
  | succ m ih =>
    intro i j h n x6 x7 x11 x17 x31 hm hij hjc h1 h2 hn hf ho
    rw [bO]
    by_cases hlt : i < j
    · have hcc : ((i : Int) < (j : Int)) := by omega
      have hk : (i + j) / 2 < cnt := by omega
      have hv' := hv.aM (h' := h) (fun j hj => ho j (hvn j hj))
      have hp' := hp.mono (D' := D) (fun _ q => q) (fun j hj => ho j (hD j hj))
      obtain ⟨id, sv, hx, a, d1, d2⟩ := hp'.get (j := (i + j) / 2) (by omega)
      have hidx := hv'.idx (E := env) u95 rU (kk := .i64) (z := (((i + j) / 2 : Nat) : Int)) (j := (i + j) / 2) rfl hk (h' := h) (n' := n)
      have hld := hv'.load (E := env) iT rfl (k := (i + j) / 2 * 1) (n := n) (by rw [Nat.mul_one]; exact hx)
      simp only [wY, bC, Try.f114, Option.getD_some, tyr, fgr, lenOf, bor, BJ, bZ, Int.reduceLE, convert, fT, pE, List.getD_cons_zero, hcc, mid i j (by omega), gE]
      rw [aE hidx]
      simp only [gE]
      rw [aE hld]
      simp only [fo, hkO, gE]
      have atn : AtN h n id sv (vs[(i + j) / 2]'(by omega)) := ⟨a, by have := hD _ d1; omega, fun q hq => by have := hD _ (d2 q hq); omega⟩
      refine aQ hf (fO o id t sv st _ tv h n atn (ht.old hn ho) hf) fun v' h' n' hn' hf' ⟨e', o'⟩ => ?_
      subst e'
      have ho' : Old h0 h' n0 := fun q hq => (o' q (by omega)).trans (ho q hq)
      by_cases hneg : iD o (vs[(i + j) / 2]'(by omega)) tv < 0
      · have w1 : IntKind.i64.wrap ((((i + j) / 2 : Nat) : Int) + 1) = (((i + j) / 2 + 1 : Nat) : Int) := by rw [w64 (by omega) (by omega)]; omega
        simp only [fgr, bor, bZ, hneg, w1, gE]
        exact ih ((i + j) / 2 + 1) j h' n' _ _ _ _ _ (by omega) (by omega) hjc (fun k hk hlt => by
          by_cases q : k = (i + j) / 2
          · subst q; exact hneg
          · exact hmono k ((i + j) / 2) hk (by omega) (by omega) hneg) h2 (by omega) hf' ho'
      · simp only [fgr, bor, hneg, gE]
        exact ih i ((i + j) / 2) h' n' _ _ _ _ _ (by omega) (by omega) (by omega) h1 (fun k hk hle hlt => by
          by_cases q : k = (i + j) / 2
          · subst q; exact hneg hlt
          · exact hneg (hmono ((i + j) / 2) k (by omega) hk (by omega) hlt)) (by omega) hf' ho'
    · have : i = j := by omega
      subst this
      have hcc : ¬ ((i : Int) < (i : Int)) := by omega
      simp only [wY, bC, Try.f114, Option.getD_some, fgr, bor, List.getD_cons_zero, hcc, gE]
      exact hT i h n _ _ _ _ _ hjc h1 h2 hn hf ho
structure Pos (o : Bool) (vs : List Ver) (t : Ver) (p : Nat) : Prop where
  le : p ≤ vs.length
  lo : ∀ k (hk : k < vs.length), k < p → iD o vs[k] t < 0
  hi : ∀ k (hk : k < vs.length), p ≤ k → ¬ iD o vs[k] t < 0
def wJ (o : Bool) (vs : List Ver) (t : Ver) (p : Nat) : Bool := match vs[p]? with
  | some w => decide (iD o w t = 0)
  | none => false
def LK (o : Bool) (vs : List Ver) (t : Ver) : Prop := ∀ (a b : Nat) (ha : a < vs.length) (hb : b < vs.length), a < b → iD o vs[b] t < 0 → iD o vs[a] t < 0
theorem f114 (o : Bool) (v : a9) (t : Nat) (st : a9) (tv : Ver) (cnt : Nat) (xs : List a9) (vs : List Ver) (D : Nat → Prop) (h : Hp) (n : Nat) (hc : cnt ≤ 100000000) (hv : Rds h 1 v cnt xs) (hvn : ∀ j, aP v = some j → j < n) (hp : Ps h D xs vs) (hD : ∀ j, D j → j < n) (ht : AtN h n t st tv)
    (hmono : LK o vs tv) (hf : aY h n) :
    Wp (bH env (aV env) 114 [v, .ptr t 0, fo o]) h n fun v' h' n' => ∃ p, Pos o vs tv p ∧ v' = .tup [.int .i64 (p : Nat), .bool (wJ o vs tv p)] ∧ Old h h' n := by
  have hcl : cnt = vs.length := by have := hv.length; have := hp.len; omega
  refine aU aq3 al9 ?_
  simp only [PO, Try.f114, Option.getD_some, List.replicate, fgr, builtin, Nat.reduceAdd, Nat.reduceSub, hv.cA u95, gE]
  refine TG _ _ o v t st tv cnt xs vs D h n hc hv hvn hp hD ht hmono ?_ cnt 0 cnt h n _ _ _ _ _ (by omega) (by omega) (Nat.le_refl _) (fun k _ hk => by omega) (fun k hk hle => by omega) (Nat.le_refl _) hf (Old.refl _ _)
  intro p h1 n1 x6 x7 x11 x17 x31 hpc hlo hhi hn1 hf1 ho1
  have hP : Pos o vs tv p := ⟨by omega, hlo, hhi⟩
  by_cases hlt : p < cnt
  · have hcc : ((p : Int) < ((cnt : Nat) : Int)) := by omega
    have hv' := hv.aM (h' := h1) (fun j hj => ho1 j (hvn j hj))
    have hp' := hp.mono (D' := D) (fun _ q => q) (fun j hj => ho1 j (hD j hj))
    obtain ⟨id, sv, hx, a, d1, d2⟩ := hp'.get (j := p) (by omega)
    have hidx := hv'.idx (E := env) u95 rU (kk := .i64) (z := ((p : Nat) : Int)) (j := p) rfl hlt (h' := h1) (n' := n1)
    have hld := hv'.load (E := env) iT rfl (k := p * 1) (n := n1) (by rw [Nat.mul_one]; exact hx)
    simp only [bor, hcc, gE]
    rw [aE hidx]
    simp only [gE]
    rw [aE hld]
    simp only [fo, hkO, gE]
    have atn : AtN h1 n1 id sv (vs[p]'(by omega)) := ⟨a, by have := hD _ d1; omega, fun q hq => by have := hD _ (d2 q hq); omega⟩
    refine aQ hf1 (fO o id t sv st _ tv h1 n1 atn (ht.old hn1 ho1) hf1) fun v' h' n' hn' hf' ⟨e', o'⟩ => ?_
    subst e'
    have hia : wJ o vs tv p = decide (iD o (vs[p]'(by omega)) tv = 0) := by
      unfold wJ
      rw [List.getElem?_eq_getElem (by omega)]
    simp only [fgr, bor, bE, gE]
    exact ⟨p, hP, by rw [hia], fun q hq => (o' q (by omega)).trans (ho1 q hq)⟩
  · have hcc : ¬ ((p : Int) < ((cnt : Nat) : Int)) := by omega
    have hia : wJ o vs tv p = false := by
      unfold wJ
      rw [List.getElem?_eq_none (by omega)]
    simp only [fgr, bor, bE, hcc, gE]
    exact ⟨p, hP, by rw [hia], ho1⟩
theorem f103 (o : Bool) (x off : Nat) (cs : List a9) (v : a9) (t : Nat) (st : a9) (tv : Ver) (cnt : Nat) (xs : List a9) (vs : List Ver) (D : Nat → Prop) (h : Hp) (n : Nat) (hr : Row h x cs) (hc0 : cs[off]? = some v) (hc1 : cs[off + 1]? = some (fo o)) (hc : cnt ≤ 100000000) (hv : Rds h 1 v cnt xs) (hvn : ∀ j, aP v = some j → j < n) (hp : Ps h D xs vs) (hD : ∀ j, D j → j < n) (ht : AtN h n t st tv)
    (hmono : LK o vs tv) (hf : aY h n) :
    Wp (bH env (aV env) 103 [.ptr x off, .ptr t 0]) h n fun v' h' n' => ∃ p, Pos o vs tv p ∧ v' = .tup [.int .i64 (p : Nat), .bool (wJ o vs tv p)] ∧ Old h h' n := by
  refine aU ar1 am7 ?_
  simp only [PX, Try.f103, Option.getD_some, List.replicate, fgr, Nat.reduceAdd, Nat.reduceSub, gE]
  refine bW ⟨rfl, ?_⟩
  simp only [tyr, aR, Nat.reduceAdd, gE]
  rw [aW (hr.one hc0 pI rfl)]
  simp only [tyr, aR, Nat.reduceAdd, gE]
  rw [aW (hr.one hc1 JJ rfl)]
  simp only [hkr, Nat.reduceAdd, gE]
  refine cU hf (f114 o v t st tv cnt xs vs D h n hc hv hvn hp hD ht hmono hf) fun v5 h5 n5 r5 w5 hn5 f5 ⟨p, hP, e1, o1⟩ => ?_
  subst e1
  simp only [fgr, Nat.reduceAdd, gE]
  refine ⟨(by (try simp (disch := first | assumption | omega) only [cJ, gF]); repeat' (first | rfl | exact (Bool.or_eq_true _ _).mpr (.inr rfl) | refine (Bool.and_eq_true _ _).mpr ⟨?_, ?_⟩)), ?_⟩
  exact ⟨p, hP, rfl, o1⟩
inductive Lp (h : Hp) : a9 → Nat → List a9 → Prop
  | nil : Lp h .aN 0 []
  | zero (id off : Nat) (c : bG) (hh : h id = some (.row c 128)) (hs : off ≤ c.size) : Lp h (.sl id off 0 (some 0) 1) 0 []
  | sl (id cnt : Nat) (cells xs : List a9) (hh : h id = some (.row (.l cells) 128)) (h0 : 0 < cells.length) (hl : cnt ≤ cells.length) (hx : cells.take cnt = xs) : Lp h (.sl id 0 cnt none 1) cnt xs
theorem Lp.rds {h : Hp} {s : a9} {cnt : Nat} {xs : List a9} (l : Lp h s cnt xs) : Rds h 1 s cnt xs := by
  cases l with
  | nil => exact .aN
  | zero id off c hh hs => exact .sl id off 0 (some 0) c 128 _ hh rfl (by simpa using hs) (fun j hj => by simp at hj)
  | sl id cnt cells xs hh h0 hl hx =>
    subst hx
    exact .sl id 0 cnt none (.l cells) 128 _ hh (by rw [List.length_take]; omega) (by rw [List.length_take]; show 0 + _ ≤ cells.length; omega) (fun j hj => by
      rw [List.length_take] at hj
      rw [Nat.zero_add, bG.wP (by omega), List.getElem_take])
theorem Lp.aM {h h' : Hp} {s : a9} {cnt : Nat} {xs : List a9} (l : Lp h s cnt xs) (hk : ∀ j, aP s = some j → h' j = h j) : Lp h' s cnt xs := by
  cases l with
  | nil => exact .nil
  | zero id off c hh hs => exact .zero id off c ((hk id rfl).trans hh) hs
  | sl id cnt cells xs hh h0 hl hx => exact .sl id cnt cells xs ((hk id rfl).trans hh) h0 hl hx
theorem Lp.dL {h : Hp} {n : Nat} {s : a9} {cnt : Nat} {xs : List a9} (l : Lp h s cnt xs) (hf : aY h n) {j : Nat} (hj : aP s = some j) : j < n := by
  by_cases q : j < n
  · exact q
  · cases l with
    | nil => cases hj
    | zero id off c hh hs => injection hj with hj; subst hj; rw [hf id (by omega)] at hh; cases hh
    | sl id cnt cells xs hh h0 hl hx => injection hj with hj; subst hj; rw [hf id (by omega)] at hh; cases hh
theorem VM {h : Hp} {n xid k cnt : Nat} {s x : a9} {xs : List a9} (l : Lp h s cnt xs) (hx : h xid = some (.row (.l [x]) 128)) (h1 : bB x = true) (hk : k ≤ cnt) (hc : cnt ≤ 100000000) (hxs : xs.all bB = true) (hne : aP s ≠ some xid) (hf : aY h n) :
    Wp (vG 128 oY.i [s, .int .i64 (k : Nat), .sl xid 0 1 (some 1) 1]) h n fun v' h' n' => v' = .sl n 0 (cnt + 1) none 1 ∧ n' = n + 1 ∧ h' n = some (.row (.l (fK xs k x)) 128) ∧ ∀ j, j < n → aP s ≠ some j → h' j = h j := by
  have hxn : xid < n := by
    by_cases q : xid < n
    · exact q
    · rw [hf xid (by omega)] at hx; cases hx
  have b1 : Nat.blt xid n = true := Nat.ble_eq_true_of_le hxn
  have b2 : Nat.blt 0 1 = true := rfl
  have r0 : ((2 * 1 * 8).ble room && (1).ble room) = true := rfl
  simp only [vG, SE, eT, hx, Option.some.injEq, exists_eq_left', eE, eL, b1, bG.size, bG.at, nth, List.length_singleton, b2, Nat.beq_refl, h1, Bool.and_self, true_and]
  cases l with
  | nil =>
    have : k = 0 := by omega
    subst this
    simp only [rH, iG, eL, gC, aT, decide_true, Int.cast_ofNat_Int, oY, r0, true_and]
    exact ⟨aO _ _ _, fun j hj _ => aH _ _ (by omega)⟩
  | zero id off c hh hs =>
    have : k = 0 := by omega
    subst this
    have hid : id < n := by
      by_cases q : id < n
      · exact q
      · rw [hf id (by omega)] at hh; cases hh
    have b3 : Nat.blt id n = true := Nat.ble_eq_true_of_le hid
    have b4 : off.ble c.size = true := Nat.ble_eq_true_of_le hs
    unfold bG.size at b4
    simp only [cB, eT, hh, Option.some.injEq, exists_eq_left', eE, eL, b3, b4, Nat.beq_refl, Bool.and_self, true_and, rH, iG, gC, aT, decide_true, Int.cast_ofNat_Int, oY, r0]
    exact ⟨aO _ _ _, fun j hj _ => aH _ _ (by omega)⟩
  | sl id cnt cells xs hh h0 hl hxx =>
    subst hxx
    have hid : id < n := by
      by_cases q : id < n
      · exact q
      · rw [hf id (by omega)] at hh; cases hh
    have b3 : Nat.blt id n = true := Nat.ble_eq_true_of_le hid
    have b4 : Nat.blt 0 cells.length = true := Nat.ble_eq_true_of_le h0
    have b5 : cnt.ble cells.length = true := Nat.ble_eq_true_of_le hl
    have b6 : (id.beq xid) = false := kF (fun e => hne (by rw [e]; rfl))
    have b7 : ai9 ((k : Nat) : Int) cnt = true := decide_eq_true ⟨by omega, by omega⟩
    have b8 : (bG.l cells).sub 0 cnt = cells.take cnt := rfl
    have r1 : ((2 * (cnt + 1) * 8).ble room && (cnt + 1).ble room) = true := by
      unfold room
      rw [cO (by omega), cO (by omega)]; rfl
    simp only [cB, eT, hh, Option.some.injEq, exists_eq_left', eE, eL, b3, b4, b5, b6, b7, b8, hxs, Nat.beq_refl, Bool.not_false, Bool.and_self, true_and, qU, iG, gC, aT, oY, r1, Int.toNat_natCast]
    refine ⟨by simp, aO _ _ _, fun j hj hn => ?_⟩
    rw [aH _ _ (by omega), aH _ _ (fun e => hn (by rw [e]; rfl))]
theorem aR4 (x : a9) (hx : x.cells = [x] ∧ bB x = true ∧ dD x = false) : buildSlice env 95 1 [(0, x)] = (newRow env 128 [x]).bind fun id => M.pure (.sl id 0 1 (some 1) 1) := by
  cases x with
  | agg l => cases hx.2.1
  | tup l => cases hx.2.1
  | aA => cases hx.2.1
  | _ => rfl
theorem f78 (o : Bool) (x off : Nat) (cs : List a9) (v : a9) (t : Nat) (st : a9) (tv : Ver) (cnt : Nat) (xs : List a9) (vs : List Ver) (D : Nat → Prop) (h : Hp) (n : Nat) (hr : Row h x cs) (hc0 : cs[off]? = some v) (hc1 : cs[off + 1]? = some (fo o)) (hc : cnt ≤ 10000000) (hv : Lp h v cnt xs) (hp : Ps h D xs vs) (hD : ∀ j, D j → j < n ∧ aP v ≠ some j) (ht : AtN h n t st tv)
    (hmono : LK o vs tv) (hx : x < n) (hxv : aP v ≠ some x) (hf : aY h n) :
    Wp (bH env (aV env) 78 [.ptr x off, .ptr t 0]) h n fun v' h' n' => v' = .tup [] ∧ ∃ p m, Pos o vs tv p ∧ n ≤ m ∧ m < n' ∧ Lp h' (.sl m 0 (cnt + 1) none 1) (cnt + 1) (fK xs p (.ptr t 0)) ∧ Row h' x (bV cs off [.sl m 0 (cnt + 1) none 1]) ∧ ∀ j, j < n → j ≠ x → aP v ≠ some j → h' j = h j := by
  have hcl : cnt = vs.length := by have := hv.rds.length; have := hp.len; omega
  have ho : off < cs.length := (List.getElem?_eq_some_iff.1 hc0).1
  refine aU aL5 az7 ?_
  simp only [YO, Try.f78, Option.getD_some, List.replicate, hkr, Nat.reduceAdd, Nat.reduceSub, gE]
  refine aQ hf (f103 o x off cs v t st tv cnt xs vs D h n hr hc0 hc1 (by omega) hv.rds (fun j hj => hv.dL hf hj) hp (fun j hj => (hD j hj).1) ht hmono hf) fun v1 h1 n1 hn1 f1 ⟨p, hP, e1, o1⟩ => ?_
  subst e1
  have hr1 := hr.aM (o1 x hx)
  have hv1 := hv.aM (h' := h1) (fun j hj => o1 j (hv.dL hf hj))
  simp only [tyr, fgr, aR, gE]
  rw [aE (hr1.one hc0 pI rfl)]
  simp only [tyr, hkr, newRow, aR4 (.ptr t 0) ⟨rfl, rfl, rfl⟩, gE]
  obtain ⟨H2, hH2⟩ : ∃ H2, H2 = upd h1 n1 (some (Blk.row (bG.l [a9.ptr t 0]) 128)) := ⟨_, rfl⟩
  have f2 : aY H2 (n1 + 1) := by rw [hH2]; exact f1.new
  have o2 : ∀ j, j ≠ n1 → H2 j = h1 j := fun j hj => by rw [hH2, aH _ _ hj]
  have r2 : H2 n1 = some (Blk.row (bG.l [a9.ptr t 0]) 128) := by rw [hH2, aO]
  rw [← hH2]
  clear hH2
  have hv2 := hv1.aM (h' := H2) (fun j hj => o2 j (by have := hv.dL hf hj; omega))
  have hvn : ∀ j, aP v = some j → j < n := fun j hj => hv.dL hf hj
  refine aQ f2 (VM hv2 r2 rfl (by have := hP.le; omega) (by omega) hp.cells (fun e => by have := hvn _ e; omega) f2) fun v3 h3 n3 hn3 f3 ⟨e3, e3n, r3, o3⟩ => ?_
  subst e3; subst e3n
  obtain ⟨ex, hx3⟩ := hr1.aM (h' := h3) ((o3 x (by omega) hxv).trans (o2 x (by omega)))
  have hil : (fK xs p (a9.ptr t 0)).length = cnt + 1 := by rw [jE, hp.len, hcl]
  simp only [tyr, aR, gE]
  rw [cR (Row.write (v := .sl (n1 + 1) 0 (cnt + 1) none 1) hx3 pI rfl (by show off + 1 ≤ _; omega) rfl)]
  simp only [bI, fgr, bP, aF, cel, true_and]
  refine ⟨p, n1 + 1, hP, by omega, by omega, .sl _ _ _ _ ((aH _ _ (by omega)).trans r3) (by omega) (by omega) (by rw [← hil, List.take_length]), Row.new _ _ _ _, fun j hj hjx hjv => ?_⟩
  rw [aH _ _ hjx, o3 j (by omega) hjv, o2 j (by omega), o1 j hj]
def iI {α : Type} (l : List α) (k : Nat) : List α := l.take k ++ l.drop (k + 1)
theorem qJ {α : Type} {l : List α} {k : Nat} (h : k < l.length) : (iI l k).length = l.length - 1 := by
  unfold iI
  rw [List.length_append, List.length_take, List.length_drop]; omega
theorem sl3 {id len i j : Nat} {z1 z2 z3 : Int} (e1 : z1 = (i : Nat)) (e2 : z2 = (j : Nat)) (e3 : z3 = (len : Nat)) (h1 : i ≤ j) (h2 : j ≤ len) {h' : Hp} {n' : Nat} :
    Rd (slice env 95 (.sl id 0 len none 1) (some (.int .i64 z1)) (some (.int .i64 z2)) (some (.int .i64 z3))) h' n' [] (.sl id i (j - i) (some (len - i)) 1) := by
  subst e1; subst e2; subst e3
  simp only [slice, u95, rU, aB, cL, fJ, bind_assoc, cB, Option.getD_none, Int.toNat_natCast, Nat.zero_add, Nat.mul_one]
  exact Rd.bind (i2 := []) (Rd.ob (decide_eq_true ⟨by omega, by omega⟩)) (Rd.bind (i2 := []) (Rd.ob (decide_eq_true ⟨by omega, by omega⟩)) (Rd.bind (i2 := []) (Rd.ob (decide_eq_true ⟨by omega, by omega⟩)) (Rd.pure _)))
theorem slh {id len k : Nat} {z : Int} (hz : z = (k : Nat)) (hk : k ≤ len) {h' : Hp} {n' : Nat} : Rd (slice env 95 (.sl id 0 len none 1) none (some (.int .i64 z)) none) h' n' [] (.sl id 0 k none 1) := by
  subst hz
  have hle : (decide (((k : Nat) : Int) ≤ ((len : Nat) : Int))) = true := decide_eq_true (by omega)
  simp only [slice, lR, hle, u95, rU, aB, cL, fJ, bind_assoc, cB, Nat.zero_mul, Nat.add_zero, Nat.sub_zero, Int.toNat_natCast]
  exact Rd.bind (i2 := []) (Rd.ob (decide_eq_true ⟨by omega, by omega⟩)) (Rd.pure _)
theorem sll {id len k : Nat} {z : Int} (hz : z = (k : Nat)) (hk : k ≤ len) {h' : Hp} {n' : Nat} : Rd (slice env 95 (.sl id 0 len none 1) (some (.int .i64 z)) none none) h' n' [] (.sl id k (len - k) none 1) := by
  subst hz
  simp only [slice, lR, u95, rU, aB, cL, fJ, bind_assoc, cB, Nat.zero_add, Nat.mul_one, Int.toNat_natCast]
  exact Rd.bind (i2 := []) (Rd.ob (decide_eq_true ⟨by omega, by omega⟩)) (Rd.pure _)
theorem slb {id len hi : Nat} {z1 z2 : Int} {cells : List a9} {e : TypeId} (e1 : z1 = (len : Nat)) (e2 : z2 = (hi : Nat)) (h1 : len < hi) (h2 : hi ≤ cells.length) {h' : Hp} {n' : Nat} (hh : h' id = some (.row (.l cells) e)) :
    Rd (slice env 95 (.sl id 0 len none 1) (some (.int .i64 z1)) (some (.int .i64 z2)) none) h' n' [id] (.sl id len (hi - len) none 1) := by
  subst e1; subst e2
  have hle : (decide (((hi : Nat) : Int) ≤ ((len : Nat) : Int))) = false := decide_eq_false (by omega)
  simp only [slice, lR, hle, u95, rU, aB, cL, fJ, bind_assoc, cB, Nat.zero_add, Nat.mul_one, Int.toNat_natCast]
  refine Rd.bind (i1 := [id]) (i2 := []) (Rd.get hh) ?_
  simp only [eE, aB, bG.size, Nat.sub_zero, Nat.div_one]
  exact Rd.bind (i2 := []) (Rd.ob (decide_eq_true ⟨by omega, by omega⟩)) (Rd.bind (i2 := []) (Rd.ob (decide_eq_true ⟨by omega, by omega⟩)) (Rd.pure _))
theorem clr {id off : Nat} {cells : List a9} {e : TypeId} {h : Hp} {n : Nat} (hh : h id = some (.row (.l cells) e)) (ho : off + 1 ≤ cells.length) :
    Wp (qR env [95] (.sl id off 1 none 1)) h n fun v' h' n' => h' = upd h id (some (.row (.l (bV cells off [.dG])) e)) ∧ n' = n := by
  have hb : (off + 1).ble cells.length = true := cO ho
  simp only [qR, u95, aB, gD, show (Nat.beq 1 0) = false from rfl, iT, cB, eY, List.append_nil, a9.cells, dN, bind_assoc, eT, hh, Option.some.injEq, exists_eq_left', eE, eL, bG.size, List.length_singleton, hb, List.all_cons, List.all_nil, bB, Bool.and_true, true_and, oD, aT]
  rw [nE _ _ _ (by simpa using ho)]
  exact ⟨by simp, rfl, trivial⟩
theorem f105 (id cnt i : Nat) (cells xs : List a9) (h : Hp) (n : Nat) (hh : h id = some (.row (.l cells) 128)) (hl : cnt ≤ cells.length) (hx : cells.take cnt = xs) (hi : i < cnt) (hc : cnt ≤ 10000000) (h1 : xs.all bB = true) (hf : aY h n) :
    Wp (bH env (aV env) 105 [.sl id 0 cnt none 1, .int .i64 (i : Nat), .int .i64 (i + 1 : Nat)]) h n fun v' h' n' => v' = .sl id 0 (cnt - 1) none 1 ∧ n' = n ∧ ∃ cells', cells'.length = cells.length ∧ cells'.take (cnt - 1) = iI xs i ∧ h' id = some (.row (.l cells') 128) ∧ ∀ j, j ≠ id → h' j = h j := by
  have hxl : xs.length = cnt := by rw [← hx, List.length_take]; omega
  have hin : id < n := by
    by_cases q : id < n
    · exact q
    · rw [hf id (by omega)] at hh; cases hh
  refine aU ar0 am6 ?_
  simp only [PW, Try.f105, Option.getD_some, List.replicate, fgr, opt, builtin, blr, Nat.reduceAdd, Nat.reduceSub, gE]
  rw [aE (sl3 rfl rfl rfl (by omega) (by omega))]
  have ei : (((i : Nat) : Int) = ((i + 1 : Nat) : Int)) = False := by simp; omega
  simp only [fgr, builtin, blr, bor, ei, gE]
  refine bW ⟨rfl, ?_⟩
  simp only [opt, Nat.reduceAdd, gE]
  rw [aW (slh rfl (by omega))]
  simp only [opt, Nat.reduceAdd, gE]
  rw [aW (sll rfl (by omega))]
  simp only [builtin, Nat.reduceAdd, gE]
  have hsub : Rds h 1 (.sl id (i + 1) (cnt - (i + 1)) none 1) (cnt - (i + 1)) (xs.drop (i + 1)) := .sl id (i + 1) _ none (.l cells) 128 _ hh (by rw [List.length_drop, hxl]; omega) (by rw [List.length_drop, hxl]; show i + 1 + _ ≤ cells.length; omega) (fun j hj => by
    rw [List.length_drop, hxl] at hj
    subst hx
    rw [bG.wP (by omega), List.getElem_drop, List.getElem_take])
  have hone : (xs.drop (i + 1)).all bB = true := by
    rw [List.all_eq_true] at h1 ⊢
    exact fun x hx => h1 x (List.mem_of_mem_drop hx)
  have hdl : (xs.drop (i + 1)).length = cnt - (i + 1) := by rw [List.length_drop, hxl]
  refine cU hf (BB (i := ⟨.pointer 31, 1, 8, .dG⟩) (e := 128) (cap := none) (Q1 := fun v' h' n' => v' = .sl id 0 (cnt - 1) none 1 ∧ n' = n ∧ h' = upd h id (some (.row (.l (bV cells i (xs.drop (i + 1)))) 128))) hh hsub u95 u95 iT hone (by decide) (by show (i + (cnt - (i + 1))) * 1 ≤ _; omega) (fun m hm => by cases hm) ?_) fun v5 h5 n5 r5 w5 hn5 f5 ⟨e1, e2, e3⟩ => ?_
  · refine ⟨by rw [show i + (cnt - (i + 1)) = cnt - 1 by omega], rfl, ?_⟩
    rw [Nat.mul_one]
  subst e1; subst e2; subst e3
  simp only [fgr, opt, builtin, blr, Nat.reduceAdd, gE]
  refine ⟨(by (try simp (disch := first | assumption | omega) only [cJ, gF]); repeat' (first | rfl | exact (Bool.or_eq_true _ _).mpr (.inr rfl) | refine (Bool.and_eq_true _ _).mpr ⟨?_, ?_⟩)), ?_⟩
  have hsl : (bV cells i (xs.drop (i + 1))).length = cells.length := eU (by rw [hdl]; omega)
  rw [aE (slb rfl rfl (by omega) (by rw [hsl]; omega) (aO _ _ _))]
  simp only [builtin, gE]
  rw [show cnt - (cnt - 1) = 1 by omega]
  refine cP (clr (aO _ _ _) (by rw [hsl]; omega)) fun v6 h6 n6 ⟨e1, e2⟩ => ?_
  subst e1; subst e2
  simp only [fgr, gE]
  refine ⟨_, ?_, ?_, aO _ _ _, fun j hj => by rw [aH _ _ hj, aH _ _ hj]⟩
  · rw [eU (by rw [hsl]; simp; omega), hsl]
  · have a1 : (bV (bV cells i (xs.drop (i + 1))) (cnt - 1) [a9.dG]).take (cnt - 1) = (bV cells i (xs.drop (i + 1))).take (cnt - 1) := by
      unfold bV
      rw [List.take_append_of_le_length (by rw [List.length_take]; simp only [List.length_append, List.length_take, List.length_drop]; omega), List.take_take, Nat.min_self]
    have a2 := pL (xs := cells) (ys := xs.drop (i + 1)) (a := i) (by rw [hdl]; omega)
    rw [hdl, show i + (cnt - (i + 1)) = cnt - 1 by omega] at a2
    rw [a1, a2]
    unfold iI
    rw [← hx, List.take_take, Nat.min_eq_left (by omega)]
theorem f79 (o : Bool) (x off : Nat) (cs : List a9) (v : a9) (t : Nat) (st : a9) (tv : Ver) (cnt : Nat) (xs : List a9) (vs : List Ver) (D : Nat → Prop) (h : Hp) (n : Nat) (hr : Row h x cs) (hc0 : cs[off]? = some v) (hc1 : cs[off + 1]? = some (fo o)) (hc : cnt ≤ 10000000) (hv : Lp h v cnt xs) (hp : Ps h D xs vs) (hD : ∀ j, D j → j < n ∧ aP v ≠ some j) (ht : AtN h n t st tv)
    (hmono : LK o vs tv) (hin : ∃ w ∈ vs, ¬ iD o w tv < 0) (hx : x < n) (hxv : aP v ≠ some x) (hf : aY h n) :
    Wp (bH env (aV env) 79 [.ptr x off, .ptr t 0]) h n fun v' h' n' => v' = .tup [] ∧ ∃ p id, Pos o vs tv p ∧ p < cnt ∧ aP v = some id ∧ Lp h' (.sl id 0 (cnt - 1) none 1) (cnt - 1) (iI xs p) ∧ Row h' x (bV cs off [.sl id 0 (cnt - 1) none 1]) ∧ ∀ j, j < n → j ≠ x → aP v ≠ some j → h' j = h j := by
  have hcl : cnt = vs.length := by have := hv.rds.length; have := hp.len; omega
  have ho : off < cs.length := (List.getElem?_eq_some_iff.1 hc0).1
  refine aU aL4 az6 ?_
  simp only [YN, Try.f79, Option.getD_some, List.replicate, hkr, Nat.reduceAdd, Nat.reduceSub, gE]
  refine aQ hf (f103 o x off cs v t st tv cnt xs vs D h n hr hc0 hc1 (by omega) hv.rds (fun j hj => hv.dL hf hj) hp (fun j hj => (hD j hj).1) ht hmono hf) fun v1 h1 n1 hn1 f1 ⟨p, hP, e1, o1⟩ => ?_
  subst e1
  have hpc : p < cnt := by
    obtain ⟨w, hw, hwt⟩ := hin
    obtain ⟨k, hk, rfl⟩ := List.mem_iff_getElem.1 hw
    by_cases q : p < cnt
    · exact q
    · exact absurd (hP.lo k hk (by omega)) hwt
  have hr1 := hr.aM (o1 x hx)
  have hv1 := hv.aM (h' := h1) (fun j hj => o1 j (hv.dL hf hj))
  have hvn : ∀ j, aP v = some j → j < n := fun j hj => hv.dL hf hj
  have hxo := hp.cells
  cases hv1 with
  | nil => omega
  | zero id off c hh hs => omega
  | sl id cnt cells xs hh h0 hl hxx =>
  have w1 : IntKind.i64.wrap (((p : Nat) : Int) + 1) = ((p + 1 : Nat) : Int) := by rw [w64 (by omega) (by omega)]; omega
  simp only [tyr, fgr, aR, gE]
  rw [aE (hr1.one hc0 pI rfl)]
  simp only [hkr, bor, bZ, w1, gE]
  refine aQ f1 (f105 id cnt p cells xs h1 n1 hh hl hxx hpc hc hxo f1) fun v3 h3 n3 hn3 f3 ⟨e3, e3n, cells', l3, t3, r3, o3⟩ => ?_
  subst e3; subst e3n
  have hxid : x ≠ id := fun e => hxv (by rw [e]; rfl)
  obtain ⟨ex, hx3⟩ := hr1.aM (h' := h3) (o3 x hxid)
  simp only [tyr, aR, gE]
  rw [cR (Row.write (v := .sl id 0 (cnt - 1) none 1) hx3 pI rfl (by show off + 1 ≤ _; omega) rfl)]
  simp only [bI, fgr, bP, aF, cel, true_and]
  refine ⟨p, id, hP, hpc, rfl, .sl _ _ _ _ ((aH _ _ (fun e => hxid e.symm)).trans r3) (by omega) (by omega) t3, Row.new _ _ _ _, fun j hj hjx hjv => ?_⟩
  rw [aH _ _ hjx, o3 j (fun e => hjv (by rw [e]; rfl)), o1 j hj]
theorem pV : pG eR := ((rC.on Ver.aI).or (tQ.on Ver.pn)).or (tQ.on Ver.made)
theorem XA : pG HD := (rC.on Ver.aJ).or pV
theorem BP (o : Bool) : pG (iD o) := by cases o; exact pV; exact XA
def cQ (o : Bool) (vs : List Ver) : Prop := vs.Pairwise fun a b => iD o a b < 0
theorem cQ.at_ {o : Bool} {vs : List Ver} (r : cQ o vs) {i j : Nat} (hi : i < vs.length) (hj : j < vs.length) (h : i < j) : iD o vs[i] vs[j] < 0 := List.pairwise_iff_getElem.1 r i j hi hj h
theorem cQ.mono {o : Bool} {vs : List Ver} (r : cQ o vs) (t : Ver) : LK o vs t := fun a b ha hb hab h => (BP o).lt _ _ _ (r.at_ ha hb hab) h
theorem E3 {o : Bool} {vs : List Ver} {t : Ver} {p : Nat} (r : cQ o vs) (hp : Pos o vs t p) : wJ o vs t p = true ↔ ∃ w ∈ vs, iD o w t = 0 := by
  unfold wJ
  constructor
  · intro h
    cases e : vs[p]? with
    | none => rw [e] at h; cases h
    | some w =>
      rw [e] at h
      exact ⟨w, List.mem_of_getElem? e, of_decide_eq_true h⟩
  · rintro ⟨w, hw, he⟩
    obtain ⟨k, hk, rfl⟩ := List.mem_iff_getElem.1 hw
    have h1 : ¬ k < p := fun h => by have := hp.lo k hk h; omega
    have h2 : ¬ p < k := fun h => by
      have hpl : p < vs.length := by omega
      have := r.at_ hpl hk h
      rw [(BP o).eqr he] at this
      exact hp.hi p hpl (Nat.le_refl _) this
    have : k = p := by omega
    subst this
    rw [List.getElem?_eq_getElem hk]
    exact decide_eq_true he
theorem E4 {α : Type} {l : List α} {k : Nat} {v w : α} : w ∈ fK l k v ↔ w = v ∨ w ∈ l := by
  unfold fK
  rw [List.mem_append, List.mem_cons]
  constructor
  · rintro (h | h | h)
    · exact .inr (List.mem_of_mem_take h)
    · exact .inl h
    · exact .inr (List.mem_of_mem_drop h)
  · rintro (h | h)
    · exact .inr (.inl h)
    · rw [← List.take_append_drop k l, List.mem_append] at h
      exact h.elim .inl fun h => .inr (.inr h)
theorem vF {α : Type} (l : List α) (k : Nat) (v : α) : (fK l k v).Perm (v :: l) := by
  unfold fK
  have h := @List.perm_middle α v (l.take k) (l.drop k)
  rwa [List.take_append_drop] at h
theorem kE {α : Type} {l : List α} {k : Nat} (h : k < l.length) : l.Perm (l[k] :: iI l k) := by
  unfold iI
  have h1 : l = l.take k ++ l[k] :: l.drop (k + 1) := by
    rw [List.getElem_cons_drop, List.take_append_drop]
  have h2 := @List.perm_middle α l[k] (l.take k) (l.drop (k + 1))
  exact (List.Perm.of_eq h1).trans h2
theorem vE {o : Bool} {vs : List Ver} {t : Ver} {p : Nat} (r : cQ o vs) (hp : Pos o vs t p) (hn : ∀ w ∈ vs, iD o w t ≠ 0) : cQ o (fK vs p t) := by
  unfold fK cQ
  have r' := r
  rw [cQ, ← List.take_append_drop p vs, List.pairwise_append] at r'
  obtain ⟨r1, r2, r3⟩ := r'
  rw [List.pairwise_append, List.pairwise_cons]
  have hlo : ∀ a ∈ vs.take p, iD o a t < 0 := fun a ha => by
    obtain ⟨k, hk, rfl⟩ := List.mem_iff_getElem.1 ha
    rw [List.length_take] at hk
    rw [List.getElem_take]
    exact hp.lo k (by omega) (by omega)
  have hhi : ∀ a ∈ vs.drop p, iD o t a < 0 := fun a ha => by
    obtain ⟨k, hk, rfl⟩ := List.mem_iff_getElem.1 ha
    rw [List.length_drop] at hk
    rw [List.getElem_drop]
    have h1 := hp.hi (p + k) (by omega) (by omega)
    have h2 := hn _ (List.getElem_mem (show p + k < vs.length by omega))
    have h3 := (BP o).pF vs[p + k] t
    omega
  refine ⟨r1, ⟨hhi, r2⟩, fun a ha b hb => ?_⟩
  rcases List.mem_cons.1 hb with rfl | hb
  · exact hlo a ha
  · exact r3 a ha b hb
theorem rM {o : Bool} {vs : List Ver} (r : cQ o vs) (p : Nat) : cQ o (iI vs p) := by
  refine List.Pairwise.sublist ?_ r
  unfold iI
  conv => rhs; rw [← List.take_append_drop p vs]
  exact List.Sublist.append (List.Sublist.refl _) (List.drop_sublist_drop_left _ (by omega))
theorem Ps.ins {h : Hp} {D : Nat → Prop} {xs : List a9} {vs : List Ver} (p : Ps h D xs vs) {t : Nat} {st : a9} {tv : Ver} (a : At h t st tv) (d1 : D t) (d2 : ∀ j, aP st = some j → D j) (k : Nat) : Ps h D (fK xs k (.ptr t 0)) (fK vs k tv) := by
  have hl := p.len
  refine ⟨by rw [jE, jE, hl], fun j x v hx hv => ?_⟩
  unfold fK at hx hv
  by_cases c : j < (xs.take k).length
  · have c2 : j < (vs.take k).length := by rw [List.length_take] at *; omega
    rw [List.getElem?_append_left c, List.getElem?_take] at hx
    rw [List.getElem?_append_left c2, List.getElem?_take] at hv
    split at hx
    · rename_i q
      rw [if_pos q] at hv
      exact p.at_ j x v hx hv
    · cases hx
  · have e1 : (xs.take k).length = (vs.take k).length := by rw [List.length_take, List.length_take, hl]
    rw [List.getElem?_append_right (by omega)] at hx
    rw [List.getElem?_append_right (by omega), ← e1] at hv
    cases hc : j - (xs.take k).length with
    | zero =>
      rw [hc] at hx hv
      injection hx with hx
      injection hv with hv
      subst hx; subst hv
      exact ⟨t, st, rfl, a, d1, d2⟩
    | succ m =>
      rw [hc] at hx hv
      rw [List.getElem?_cons_succ, List.getElem?_drop] at hx hv
      exact p.at_ _ x v hx hv
theorem Ps.del {h : Hp} {D : Nat → Prop} {xs : List a9} {vs : List Ver} (p : Ps h D xs vs) (k : Nat) : Ps h D (iI xs k) (iI vs k) := by
  have hl := p.len
  have e1 : (xs.take k).length = (vs.take k).length := by rw [List.length_take, List.length_take, hl]
  refine ⟨by unfold iI; rw [List.length_append, List.length_append, e1, List.length_drop, List.length_drop, hl], fun j x v hx hv => ?_⟩
  unfold iI at hx hv
  by_cases c : j < (xs.take k).length
  · rw [List.getElem?_append_left c, List.getElem?_take] at hx
    rw [List.getElem?_append_left (by omega), List.getElem?_take] at hv
    split at hx
    · rename_i q
      rw [if_pos q] at hv
      exact p.at_ j x v hx hv
    · cases hx
  · rw [List.getElem?_append_right (by omega), List.getElem?_drop] at hx
    rw [List.getElem?_append_right (by omega), ← e1, List.getElem?_drop] at hv
    exact p.at_ _ x v hx hv
structure IxV (h : Hp) (n : Nat) (D : Nat → Prop) (x : Nat) (vl vs : a9) (xl xs : List a9) (L S : List Ver) : Prop where
  row : Row h x [.bool true, vl, fo false, vs, fo true]
  l : Lp h vl L.length xl
  lp : Ps h D xl L
  s : Lp h vs S.length xs
  sp : Ps h D xs S
  xn : x < n
  dn : ∀ j, D j → j < n
  xd : ¬ D x
  vlx : ∀ j, aP vl = some j → j ≠ x ∧ ¬ D j
  vsx : ∀ j, aP vs = some j → j ≠ x ∧ ¬ D j ∧ aP vl ≠ some j
def IxS (h : Hp) (n : Nat) (D M : Nat → Prop) (x : Nat) (L S : List Ver) : Prop :=
  ∃ vl vs xl xs, IxV h n D x vl vs xl xs L S ∧ M x ∧ (∀ j, aP vl = some j → M j) ∧ (∀ j, aP vs = some j → M j) ∧ ∀ j, M j → j < n ∧ ¬ D j
structure Ch2 (h : Hp) (n : Nat) (M : Nat → Prop) (h' : Hp) (n' : Nat) (M' : Nat → Prop) : Prop where
  nx : n ≤ n'
  fr : aY h' n'
  m' : ∀ j, M' j → M j ∨ n ≤ j
  old : ∀ j, j < n → ¬ M j → h' j = h j
theorem Ch2.trans {h h1 h2 : Hp} {n n1 n2 : Nat} {M M1 M2 : Nat → Prop} (a : Ch2 h n M h1 n1 M1) (b : Ch2 h1 n1 M1 h2 n2 M2) : Ch2 h n M h2 n2 M2 where
  nx := Nat.le_trans a.nx b.nx
  fr := b.fr
  m' := fun j hj => (b.m' j hj).elim (a.m' j) (fun q => .inr (Nat.le_trans a.nx q))
  old := fun j hj hm => by
    rw [b.old j (by have := a.nx; omega) (fun q => by
      rcases a.m' j q with q | q
      · exact hm q
      · omega)]
    exact a.old j hj hm
theorem Ch2.of {h h' : Hp} {n n' : Nat} {M : Nat → Prop} (hf : aY h' n') (hn : n ≤ n') (ho : Old h h' n) : Ch2 h n M h' n' M := ⟨hn, hf, fun _ h => .inl h, fun j hj _ => ho j hj⟩
theorem IxS.oV {h h' : Hp} {n n' : Nat} {D M : Nat → Prop} {x : Nat} {L S : List Ver} (s : IxS h n D M x L S) (hn : n ≤ n') (ho : ∀ j, j < n → (D j ∨ M j) → h' j = h j) : IxS h' n' D M x L S := by
  obtain ⟨vl, vs, xl, xs, sv, mx, ml, ms, mn⟩ := s
  refine ⟨vl, vs, xl, xs, ⟨sv.row.aM (ho x sv.xn (.inr mx)), sv.l.aM (fun j q => ho j (mn j (ml j q)).1 (.inr (ml j q))), sv.lp.mono (fun j q => q) (fun j q => ho j (sv.dn j q) (.inl q)), sv.s.aM (fun j q => ho j (mn j (ms j q)).1 (.inr (ms j q))), sv.sp.mono (fun j q => q) (fun j q => ho j (sv.dn j q) (.inl q)), by have := sv.xn; omega, fun j q => by have := sv.dn j q; omega, sv.xd, sv.vlx, sv.vsx⟩, mx, ml, ms, fun j q => ⟨by have := (mn j q).1; omega, (mn j q).2⟩⟩
theorem IxS.old {h h' : Hp} {n n' : Nat} {D M : Nat → Prop} {x : Nat} {L S : List Ver} (s : IxS h n D M x L S) (hn : n ≤ n') (ho : Old h h' n) : IxS h' n' D M x L S := s.oV hn fun j hj _ => ho j hj
theorem wS {m : M a9} {h : Hp} {n : Nat} {Q Q' : a9 → Hp → Nat → Prop} (hf : aY h n) (hw : Wp m h n Q) (hq : ∀ v h' n', n ≤ n' → aY h' n' → Q v h' n' → Q' v h' n') : Wp m h n Q' :=
  cP (hw.yB hf) fun v h' n' hh => hq v h' n' hh.2.1 hh.2.2 hh.1
theorem ai5 (x t : Nat) (st : a9) (tv : Ver) (L S : List Ver) (D M : Nat → Prop) (h : Hp) (n : Nat) (hs : IxS h n D M x L S) (ht : AtN h n t st tv) (htm : ¬ M t) (hsm : ∀ j, aP st = some j → ¬ M j) (hr : cQ false L) (hc : L.length ≤ 1000000) (hf : aY h n) :
    Wp (bH env (aV env) 78 [.ptr x 1, .ptr t 0]) h n fun v' h' n' => v' = .tup [] ∧ ∃ p M', Pos false L tv p ∧ IxS h' n' (fun j => D j ∨ j = t ∨ aP st = some j) M' x (fK L p tv) S ∧ Ch2 h n M h' n' M' := by
  obtain ⟨vl, vs, xl, xs, sv, mx, ml, ms, mn⟩ := hs
  refine wS hf (f78 false x 1 _ vl t st tv L.length xl L D h n sv.row rfl rfl (by omega) sv.l sv.lp (fun j hj => ⟨sv.dn j hj, fun q => (sv.vlx j q).2 hj⟩) ht (hr.mono tv) sv.xn (fun q => (sv.vlx x q).1 rfl) hf) fun v' h' n' hn' f' ⟨e, p, m, hp, hm1, hm2, l', r', o'⟩ => ?_
  have hil : (fK L p tv).length = L.length + 1 := jE _ _ _
  have keepD : ∀ j, (D j ∨ j = t ∨ aP st = some j) → h' j = h j := fun j q => by
    rcases q with q | q | q
    · exact o' j (sv.dn j q) (fun e => sv.xd (by rw [← e]; exact q)) (fun e => (sv.vlx j e).2 q)
    · subst q; exact o' _ ht.idn (fun e => htm (by rw [e]; exact mx)) (fun e => htm (ml _ e))
    · exact o' j (ht.sn j q) (fun e => hsm j q (by rw [e]; exact mx)) (fun e => hsm j q (ml j e))
  have hne : ∀ j, (D j ∨ j = t ∨ aP st = some j) → j < n ∧ j ≠ x ∧ aP vs ≠ some j := fun j q => by
    rcases q with q | q | q
    · exact ⟨sv.dn j q, fun e => sv.xd (by rw [← e]; exact q), fun e => (sv.vsx j e).2.1 q⟩
    · subst q; exact ⟨ht.idn, fun e => htm (by rw [e]; exact mx), fun e => htm (ms _ e)⟩
    · exact ⟨ht.sn j q, fun e => hsm j q (by rw [e]; exact mx), fun e => hsm j q (ms j e)⟩
  have hw : ∀ j, aP vs = some j → h' j = h j := fun j q => o' j (mn j (ms j q)).1 ((sv.vsx j q).1) (fun e => (sv.vsx j q).2.2 e)
  refine ⟨e, p, fun j => j = x ∨ aP vs = some j ∨ j = m, hp, ⟨.sl m 0 (L.length + 1) none 1, vs, fK xl p (.ptr t 0), xs, ⟨r', ?_, ?_, ?_, ?_, by have := sv.xn; omega, fun j q => by have := (hne j q).1; omega, fun q => (hne x q).2.1 rfl, fun j q => ?_, fun j q => ?_⟩, .inl rfl, fun j q => ?_, fun j q => ?_, fun j q => ?_⟩, ⟨hn', f', fun j q => ?_, fun j hj hm => o' j hj (fun e => hm (by rw [e]; exact mx)) (fun e => hm (ml j e))⟩⟩
  · rw [hil]; exact l'
  · exact ((sv.lp.mono (D' := fun j => D j ∨ j = t ∨ aP st = some j) (fun j q => .inl q) (fun j q => keepD j (.inl q)))).ins (ht.toAt.aM (keepD t (.inr (.inl rfl))) (fun j q => keepD j (.inr (.inr q)))) (.inr (.inl rfl)) (fun j q => .inr (.inr q)) p
  · exact sv.s.aM hw
  · exact sv.sp.mono (fun j q => .inl q) (fun j q => keepD j (.inl q))
  · injection q with q
    subst q
    exact ⟨by have := sv.xn; omega, fun w => by have := (hne _ w).1; omega⟩
  · exact ⟨(sv.vsx j q).1, fun w => (hne j w).2.2 q, fun w => by injection w with w; have := (mn j (ms j q)).1; omega⟩
  · injection q with q; exact .inr (.inr q.symm)
  · exact .inr (.inl q)
  · rcases q with q | q | q
    · subst q; exact ⟨by have := sv.xn; omega, fun w => (hne _ w).2.1 rfl⟩
    · exact ⟨by have := (mn j (ms j q)).1; omega, fun w => (hne j w).2.2 q⟩
    · subst q; exact ⟨hm2, fun w => by have := (hne _ w).1; omega⟩
  · rcases q with q | q | q
    · subst q; exact .inl mx
    · exact .inl (ms j q)
    · exact .inr (by omega)
theorem ai4 (x t : Nat) (st : a9) (tv : Ver) (L S : List Ver) (D M : Nat → Prop) (h : Hp) (n : Nat) (hs : IxS h n D M x L S) (ht : AtN h n t st tv) (htm : ¬ M t) (hsm : ∀ j, aP st = some j → ¬ M j) (hr : cQ true S) (hc : S.length ≤ 1000000) (hf : aY h n) :
    Wp (bH env (aV env) 78 [.ptr x 3, .ptr t 0]) h n fun v' h' n' => v' = .tup [] ∧ ∃ p M', Pos true S tv p ∧ IxS h' n' (fun j => D j ∨ j = t ∨ aP st = some j) M' x L (fK S p tv) ∧ Ch2 h n M h' n' M' := by
  obtain ⟨vl, vs, xl, xs, sv, mx, ml, ms, mn⟩ := hs
  refine wS hf (f78 true x 3 _ vs t st tv S.length xs S D h n sv.row rfl rfl (by omega) sv.s sv.sp (fun j hj => ⟨sv.dn j hj, fun q => (sv.vsx j q).2.1 hj⟩) ht (hr.mono tv) sv.xn (fun q => (sv.vsx x q).1 rfl) hf) fun v' h' n' hn' f' ⟨e, p, m, hp, hm1, hm2, l', r', o'⟩ => ?_
  have hil : (fK S p tv).length = S.length + 1 := jE _ _ _
  have keepD : ∀ j, (D j ∨ j = t ∨ aP st = some j) → h' j = h j := fun j q => by
    rcases q with q | q | q
    · exact o' j (sv.dn j q) (fun e => sv.xd (by rw [← e]; exact q)) (fun e => (sv.vsx j e).2.1 q)
    · subst q; exact o' _ ht.idn (fun e => htm (by rw [e]; exact mx)) (fun e => htm (ms _ e))
    · exact o' j (ht.sn j q) (fun e => hsm j q (by rw [e]; exact mx)) (fun e => hsm j q (ms j e))
  have hne : ∀ j, (D j ∨ j = t ∨ aP st = some j) → j < n ∧ j ≠ x ∧ aP vl ≠ some j := fun j q => by
    rcases q with q | q | q
    · exact ⟨sv.dn j q, fun e => sv.xd (by rw [← e]; exact q), fun e => (sv.vlx j e).2 q⟩
    · subst q; exact ⟨ht.idn, fun e => htm (by rw [e]; exact mx), fun e => htm (ml _ e)⟩
    · exact ⟨ht.sn j q, fun e => hsm j q (by rw [e]; exact mx), fun e => hsm j q (ml j e)⟩
  have hw : ∀ j, aP vl = some j → h' j = h j := fun j q => o' j (mn j (ml j q)).1 ((sv.vlx j q).1) (fun e => (sv.vsx j e).2.2 q)
  refine ⟨e, p, fun j => j = x ∨ aP vl = some j ∨ j = m, hp, ⟨vl, .sl m 0 (S.length + 1) none 1, xl, fK xs p (.ptr t 0), ⟨r', ?_, ?_, ?_, ?_, by have := sv.xn; omega, fun j q => by have := (hne j q).1; omega, fun q => (hne x q).2.1 rfl, fun j q => ?_, fun j q => ?_⟩, .inl rfl, fun j q => ?_, fun j q => ?_, fun j q => ?_⟩, ⟨hn', f', fun j q => ?_, fun j hj hm => o' j hj (fun e => hm (by rw [e]; exact mx)) (fun e => hm (ms j e))⟩⟩
  · exact sv.l.aM hw
  · exact sv.lp.mono (fun j q => .inl q) (fun j q => keepD j (.inl q))
  · rw [hil]; exact l'
  · exact ((sv.sp.mono (D' := fun j => D j ∨ j = t ∨ aP st = some j) (fun j q => .inl q) (fun j q => keepD j (.inl q)))).ins (ht.toAt.aM (keepD t (.inr (.inl rfl))) (fun j q => keepD j (.inr (.inr q)))) (.inr (.inl rfl)) (fun j q => .inr (.inr q)) p
  · exact ⟨(sv.vlx j q).1, fun w => (hne j w).2.2 q⟩
  · injection q with q
    subst q
    exact ⟨by have := sv.xn; omega, fun w => by have := (hne _ w).1; omega, fun w => by have := (mn _ (ml _ w)).1; omega⟩
  · exact .inr (.inl q)
  · injection q with q; exact .inr (.inr q.symm)
  · rcases q with q | q | q
    · subst q; exact ⟨by have := sv.xn; omega, fun w => (hne _ w).2.1 rfl⟩
    · exact ⟨by have := (mn j (ml j q)).1; omega, fun w => (hne j w).2.2 q⟩
    · subst q; exact ⟨hm2, fun w => by have := (hne _ w).1; omega⟩
  · rcases q with q | q | q
    · subst q; exact .inl mx
    · exact .inl (ml j q)
    · exact .inr (by omega)
theorem VG (x t : Nat) (st : a9) (tv : Ver) (L S : List Ver) (D M : Nat → Prop) (h : Hp) (n : Nat) (hs : IxS h n D M x L S) (ht : AtN h n t st tv) (hr : cQ false L) (hin : ∃ w ∈ L, iD false w tv = 0) (hc : L.length ≤ 1000000) (hf : aY h n) :
    Wp (bH env (aV env) 79 [.ptr x 1, .ptr t 0]) h n fun v' h' n' => v' = .tup [] ∧ ∃ p, Pos false L tv p ∧ p < L.length ∧ IxS h' n' D M x (iI L p) S ∧ Ch2 h n M h' n' M := by
  obtain ⟨vl, vs, xl, xs, sv, mx, ml, ms, mn⟩ := hs
  refine wS hf (f79 false x 1 _ vl t st tv L.length xl L D h n sv.row rfl rfl (by omega) sv.l sv.lp (fun j hj => ⟨sv.dn j hj, fun q => (sv.vlx j q).2 hj⟩) ht (hr.mono tv) (by obtain ⟨w, hw, he⟩ := hin; exact ⟨w, hw, by omega⟩) sv.xn (fun q => (sv.vlx x q).1 rfl) hf) fun v' h' n' hn' f' ⟨e, p, id, hp, hpl, hid, l', r', o'⟩ => ?_
  have hdl : (iI L p).length = L.length - 1 := qJ hpl
  have keepD : ∀ j, D j → h' j = h j := fun j q => o' j (sv.dn j q) (fun e => sv.xd (by rw [← e]; exact q)) (fun e => (sv.vlx j e).2 q)
  have hw : ∀ j, aP vs = some j → h' j = h j := fun j q => o' j (mn j (ms j q)).1 ((sv.vsx j q).1) (fun e => (sv.vsx j q).2.2 e)
  refine ⟨e, p, hp, hpl, ⟨.sl id 0 (L.length - 1) none 1, vs, iI xl p, xs, ⟨r', ?_, ?_, ?_, ?_, by have := sv.xn; omega, fun j q => by have := sv.dn j q; omega, sv.xd, fun j q => ?_, fun j q => ?_⟩, mx, fun j q => ?_, fun j q => ?_, fun j q => ⟨by have := (mn j q).1; omega, (mn j q).2⟩⟩, ⟨hn', f', fun j q => .inl q, fun j hj hm => o' j hj (fun e => hm (by rw [e]; exact mx)) (fun e => hm (ml j e))⟩⟩
  · rw [hdl]; exact l'
  · exact (sv.lp.mono (fun j q => q) keepD).del p
  · exact sv.s.aM hw
  · exact sv.sp.mono (fun j q => q) keepD
  · injection q with q; subst q; exact sv.vlx _ hid
  · refine ⟨(sv.vsx j q).1, (sv.vsx j q).2.1, fun w => (sv.vsx j q).2.2 (by injection w with w; rw [← w]; exact hid)⟩
  · injection q with q; subst q; exact ml _ hid
  · exact ms j q
theorem VF (x t : Nat) (st : a9) (tv : Ver) (L S : List Ver) (D M : Nat → Prop) (h : Hp) (n : Nat) (hs : IxS h n D M x L S) (ht : AtN h n t st tv) (hr : cQ true S) (hin : ∃ w ∈ S, iD true w tv = 0) (hc : S.length ≤ 1000000) (hf : aY h n) :
    Wp (bH env (aV env) 79 [.ptr x 3, .ptr t 0]) h n fun v' h' n' => v' = .tup [] ∧ ∃ p, Pos true S tv p ∧ p < S.length ∧ IxS h' n' D M x L (iI S p) ∧ Ch2 h n M h' n' M := by
  obtain ⟨vl, vs, xl, xs, sv, mx, ml, ms, mn⟩ := hs
  refine wS hf (f79 true x 3 _ vs t st tv S.length xs S D h n sv.row rfl rfl (by omega) sv.s sv.sp (fun j hj => ⟨sv.dn j hj, fun q => (sv.vsx j q).2.1 hj⟩) ht (hr.mono tv) (by obtain ⟨w, hw, he⟩ := hin; exact ⟨w, hw, by omega⟩) sv.xn (fun q => (sv.vsx x q).1 rfl) hf) fun v' h' n' hn' f' ⟨e, p, id, hp, hpl, hid, l', r', o'⟩ => ?_
  have hdl : (iI S p).length = S.length - 1 := qJ hpl
  have keepD : ∀ j, D j → h' j = h j := fun j q => o' j (sv.dn j q) (fun e => sv.xd (by rw [← e]; exact q)) (fun e => (sv.vsx j e).2.1 q)
  have hw : ∀ j, aP vl = some j → h' j = h j := fun j q => o' j (mn j (ml j q)).1 ((sv.vlx j q).1) (fun e => (sv.vsx j e).2.2 q)
  refine ⟨e, p, hp, hpl, ⟨vl, .sl id 0 (S.length - 1) none 1, xl, iI xs p, ⟨r', ?_, ?_, ?_, ?_, by have := sv.xn; omega, fun j q => by have := sv.dn j q; omega, sv.xd, fun j q => ?_, fun j q => ?_⟩, mx, fun j q => ?_, fun j q => ?_, fun j q => ⟨by have := (mn j q).1; omega, (mn j q).2⟩⟩, ⟨hn', f', fun j q => .inl q, fun j hj hm => o' j hj (fun e => hm (by rw [e]; exact mx)) (fun e => hm (ms j e))⟩⟩
  · exact sv.l.aM hw
  · exact sv.lp.mono (fun j q => q) keepD
  · rw [hdl]; exact l'
  · exact (sv.sp.mono (fun j q => q) keepD).del p
  · exact sv.vlx j q
  · injection q with q; subst q; exact sv.vsx _ hid
  · exact ml j q
  · injection q with q; subst q; exact ms _ hid
def key (aI : List UInt8) (pn made : Int) : Ver := ⟨aI, pn, made, 0, [], false, 0, List.replicate 32 0⟩
theorem P9 {aI : List UInt8} {pn made : Int} (h : aI.length = 32) : (key aI pn made).Ok := ⟨h, rfl⟩
theorem gW {place : Nat → Option (Nat × Nat)} {i off sz : Nat} {pre mid fA : List a9} {v : a9} {rest : List (Nat × a9)} (hp : place i = some (off, sz)) (h1 : pre.length = off) (h2 : mid.length = sz) (h3 : v.cells.length = sz) (h4 : dD v = false) :
    fill place (pre ++ mid ++ fA) ((i, v) :: rest) = fill place (pre ++ v.cells ++ fA) rest := by
  have e1 : (off + sz).ble (pre ++ mid ++ fA).length = true := cO (by simp only [List.length_append]; omega)
  have e2 : (pre ++ mid ++ fA).take off = pre := by rw [List.append_assoc, List.take_left' h1]
  have e3 : (pre ++ mid ++ fA).drop (off + sz) = fA := by rw [List.drop_left' (by rw [List.length_append]; omega)]
  simp only [fill, hp, h4, Bool.not_false, h3, Nat.beq_refl, e1, Bool.and_self, e2, e3]
def z33 : List a9 := List.replicate 32 (.int .u8 0) ++ [.int .u32 0]
def z36 : List a9 := [.int .i64 0, .aN, .bool false, .int .i64 0] ++ List.replicate 32 (.int .u8 0)
theorem z31 : eK.i.zero.cells = [] ++ z33 ++ ([.int .i64 0] ++ z36) := rfl
theorem UH {aI : List UInt8} {pn made : Int} (hl : aI.length = 32) : build env 31 [(0, .agg (aS aI pn)), (1, .int .i64 made)] = M.pure (.agg (aK (key aI pn made) .aN)) := by
  have h1 : (a9.agg (aS aI pn)).cells.length = 33 := bM hl
  have e1 : ∀ pl : Nat → Option (Nat × Nat), pl 0 = some (0, 33) → pl 1 = some (33, 1) → fill pl eK.i.zero.cells [(0, .agg (aS aI pn)), (1, .int .i64 made)] = some (aK (key aI pn made) .aN) := fun pl p0 p1 => by
    rw [z31, gW p0 rfl rfl h1 rfl, List.nil_append, ← List.append_assoc]
    rw [gW p1 h1 rfl rfl rfl]
    simp only [fill]
    congr 1
    unfold aK nB key
    simp only [a9.cells, List.append_assoc]
    congr 1
  have e2 : build env 31 [(0, .agg (aS aI pn)), (1, .int .i64 made)] = (fV "build" (fill ([(0, 33), (33, 1), (34, 1), (35, 1), (36, 1), (37, 1), (38, 32)][·]?) eK.i.zero.cells [(0, .agg (aS aI pn)), (1, .int .i64 made)])).bind fun cs => M.pure (.agg cs) := rfl
  rw [e2, e1 _ rfl rfl]
  rfl
theorem f76 (x : Nat) (aI : List UInt8) (pn made : Int) (hl : aI.length = 32) (L S : List Ver) (D M : Nat → Prop) (h : Hp) (n : Nat) (hs : IxS h n D M x L S) (hr : cQ false L) (hc : L.length ≤ 1000000) (hf : aY h n) :
    Wp (bH env (aV env) 76 [.ptr x 0, .agg (aS aI pn), .int .i64 made]) h n fun v' h' n' => ((∀ w ∈ L, eR w (key aI pn made) ≠ 0) ∧ v' = .dG ∨ ∃ id sv w, w ∈ L ∧ eR w (key aI pn made) = 0 ∧ v' = .ptr id 0 ∧ At h' id sv w ∧ D id ∧ ∀ j, aP sv = some j → D j) ∧ Old h h' n := by
  have hs0 := hs
  obtain ⟨vl, vs, xl, xs, sv, mx, ml, ms, mn⟩ := hs
  refine aU aL7 az9 ?_
  simp only [YQ, Try.f76, Option.getD_some, List.replicate, Nat.reduceAdd, Nat.reduceSub, gE]
  refine cG (v := .agg (aS aI pn)) gG rfl hf fun H1 r1 o1 f1 => ?_
  simp only [fgr, gE]
  refine bW ⟨rfl, ?_⟩
  simp only [tyr, aR, Nat.reduceAdd, gE]
  have hld : Rd (load env 28 (.ptr n 0)) H1 (n + 1) [n] (.agg (aS aI pn)) := Row.eF r1 gG rfl (bM hl)
  rw [aW hld]
  simp only [Nat.reduceAdd, UH hl, gE]
  refine J0 (v := .agg (aK (key aI pn made) .aN)) cY rfl f1 fun H2 r w r2 o2 f2 => ?_
  simp only [hkr, Nat.reduceAdd, gE]
  have old2 : Old h H2 n := fun j hj => by rw [o2 j (by omega), o1 j (by omega)]
  have ht : AtN H2 (n + 1 + 1) (n + 1) .aN (key aI pn made) := ⟨⟨⟨_, r2⟩, .aN, P9 hl⟩, by omega, fun j hj => by cases hj⟩
  have row2 := sv.row.aM (old2 x sv.xn)
  refine cU f2 (f103 false x 1 _ vl (n + 1) .aN (key aI pn made) L.length xl L D H2 _ row2 rfl rfl (by omega) (sv.l.aM (fun j q => old2 j (mn j (ml j q)).1)).rds (fun j q => by have := (mn j (ml j q)).1; omega) (sv.lp.mono (fun j q => q) (fun j q => old2 j (sv.dn j q))) (fun j q => by have := sv.dn j q; omega) ht (hr.mono _) f2) fun v3 h3 n3 r3 w3 hn3 f3 ⟨p, hP, e3, o3⟩ => ?_
  subst e3
  have old3 : Old h h3 n := fun j hj => by rw [o3 j (by omega), old2 j hj]
  simp only [fgr, unOp, Nat.reduceAdd, gE]
  refine ⟨(by (try simp (disch := first | assumption | omega) only [cJ, gF]); repeat' (first | rfl | exact (Bool.or_eq_true _ _).mpr (.inr rfl) | refine (Bool.and_eq_true _ _).mpr ⟨?_, ?_⟩)), ?_⟩
  have hat := E3 hr hP
  cases hq : wJ false L (key aI pn made) p with
  | false =>
    simp only [fgr, reduceCtorEq, gE]
    exact ⟨.inl (fun w hw he => by rw [hq] at hat; exact absurd (hat.2 ⟨w, hw, he⟩) (by decide)), old3⟩
  | true =>
    simp only [tyr, aR, gE]
    have hpl : p < L.length := by
      by_cases q : p < L.length
      · exact q
      · unfold wJ at hq; rw [List.getElem?_eq_none (by omega)] at hq; cases hq
    have he : eR L[p] (key aI pn made) = 0 := by
      unfold wJ at hq
      rw [List.getElem?_eq_getElem hpl] at hq
      exact of_decide_eq_true hq
    have row3 := sv.row.aM (old3 x sv.xn)
    have lp3 := sv.lp.mono (D' := D) (fun j q => q) (fun j q => old3 j (sv.dn j q))
    have l3 := sv.l.aM (fun j q => old3 j (mn j (ml j q)).1)
    obtain ⟨id, sw, hx, a, d1, d2⟩ := lp3.get hpl
    rw [aE (row3.one (off := 1) rfl pI rfl)]
    simp only [gE]
    rw [aE (l3.rds.idx u95 rU rfl hpl)]
    simp only [gE]
    rw [aE (l3.rds.load iT rfl (by rw [Nat.mul_one]; exact hx))]
    simp only [fgr, reduceCtorEq, gE]
    exact ⟨.inr ⟨id, sw, L[p], List.getElem_mem hpl, he, rfl, a, d1, d2⟩, old3⟩
theorem kN {o : Bool} {vs : List Ver} (r : cQ o vs) {a b : Ver} (ha : a ∈ vs) (hb : b ∈ vs) (h : iD o a b = 0) : a = b := by
  obtain ⟨i, hi, rfl⟩ := List.mem_iff_getElem.1 ha
  obtain ⟨j, hj, rfl⟩ := List.mem_iff_getElem.1 hb
  rcases Nat.lt_trichotomy i j with q | q | q
  · have := r.at_ hi hj q; omega
  · subst q; rfl
  · have := r.at_ hj hi q
    have := (BP o).pF vs[i] vs[j]
    omega
def pos (o : Bool) (vs : List Ver) (t : Ver) : Nat := vs.countP fun w => decide (iD o w t < 0)
theorem Pos.eq {o : Bool} {vs : List Ver} {t : Ver} {p : Nat} (h : Pos o vs t p) : p = pos o vs t := by
  unfold pos
  conv => rhs; rw [← List.take_append_drop p vs]
  rw [List.countP_append]
  have h1 : (vs.take p).countP (fun w => decide (iD o w t < 0)) = p := by
    rw [List.countP_eq_length.2 (fun a ha => by
      obtain ⟨k, hk, rfl⟩ := List.mem_iff_getElem.1 ha
      rw [List.length_take] at hk
      rw [List.getElem_take]
      exact decide_eq_true (h.lo k (by omega) (by omega))), List.length_take]
    have := h.le; omega
  have h2 : (vs.drop p).countP (fun w => decide (iD o w t < 0)) = 0 := by
    rw [List.countP_eq_zero]
    intro a ha
    obtain ⟨k, hk, rfl⟩ := List.mem_iff_getElem.1 ha
    rw [List.length_drop] at hk
    rw [List.getElem_drop]
    have := h.hi (p + k) (by omega) (by omega)
    simpa using this
  omega
theorem oF {o : Bool} {vs : List Ver} {t : Ver} {p : Nat} (r : cQ o vs) (h : Pos o vs t p) (ht : t ∈ vs) : ∃ hp : p < vs.length, vs[p] = t := by
  have ha := (E3 r h).2 ⟨t, ht, (BP o).refl t⟩
  unfold wJ at ha
  cases e : vs[p]? with
  | none => rw [e] at ha; cases ha
  | some w =>
    rw [e] at ha
    obtain ⟨hp, hw⟩ := List.getElem?_eq_some_iff.1 e
    refine ⟨hp, ?_⟩
    rw [hw]
    exact kN r (List.mem_of_getElem? e) ht (of_decide_eq_true ha)
def nG (L : List Ver) (v : Ver) : List Ver := fK L (pos false L v) v
def kX (L : List Ver) (v : Ver) : List Ver := iI L (pos false L v)
structure Ix (h : Hp) (n : Nat) (D M : Nat → Prop) (x : Nat) (L : List Ver) : Prop where
  ex : ∃ S, IxS h n D M x L S ∧ cQ true S ∧ L.Perm S
  r : cQ false L
  ok : ∀ v ∈ L, v.Ok ∧ v.aJ.length ≤ 1000000
structure Chg (h : Hp) (n : Nat) (D M : Nat → Prop) (h' : Hp) (n' : Nat) (D' M' : Nat → Prop) : Prop extends Ch2 h n M h' n' M' where
  d : ∀ j, D j → D' j
  d' : ∀ j, D' j → D j ∨ n ≤ j
theorem Chg.trans {h h1 h2 : Hp} {n n1 n2 : Nat} {D D1 D2 M M1 M2 : Nat → Prop} (a : Chg h n D M h1 n1 D1 M1) (b : Chg h1 n1 D1 M1 h2 n2 D2 M2) : Chg h n D M h2 n2 D2 M2 :=
  ⟨a.toCh2.trans b.toCh2, fun j hj => b.d j (a.d j hj), fun j hj => (b.d' j hj).elim (a.d' j) (fun q => .inr (Nat.le_trans a.nx q))⟩
theorem Chg.of {h h' : Hp} {n n' : Nat} {D M : Nat → Prop} (hf : aY h' n') (hn : n ≤ n') (ho : Old h h' n) : Chg h n D M h' n' D M := ⟨.of hf hn ho, fun _ h => h, fun _ h => .inl h⟩
theorem Ix.oV {h h' : Hp} {n n' : Nat} {D M : Nat → Prop} {x : Nat} {L : List Ver} (s : Ix h n D M x L) (hn : n ≤ n') (ho : ∀ j, j < n → (D j ∨ M j) → h' j = h j) : Ix h' n' D M x L := by
  obtain ⟨⟨S, a, b, c⟩, r, k⟩ := s
  exact ⟨⟨S, a.oV hn ho, b, c⟩, r, k⟩
theorem Ix.old {h h' : Hp} {n n' : Nat} {D M : Nat → Prop} {x : Nat} {L : List Ver} (s : Ix h n D M x L) (hn : n ≤ n') (ho : Old h h' n) : Ix h' n' D M x L := s.oV hn fun j hj _ => ho j hj
theorem aS5 : build env 100 [(0, .bool true)] = M.pure (.agg [.bool true, .aN, .cF, .aN, .cF]) := rfl
theorem f40 (h : Hp) (n : Nat) (hf : aY h n) : Wp (bH env (aV env) 40 []) h n fun v' h' n' => ∃ x, v' = .ptr x 0 ∧ n ≤ x ∧ Ix h' n' (fun _ => False) (fun j => j = x) x [] ∧ Old h h' n := by
  refine aU aN7 aB9 ?_
  simp only [ZA, Try.f40, Option.getD_some, List.replicate, fgr, Nat.reduceSub, aS5, gE]
  refine cG (v := .agg [.bool true, .aN, .cF, .aN, .cF]) I2 rfl hf fun h1 r1 o1 f1 => ?_
  obtain ⟨e, he⟩ := r1
  simp only [tyr, fgr, aR, Nat.reduceAdd, gE]
  rw [cR (Row.write (v := .fn (.func 84) [] []) he JJ rfl (by decide) rfl)]
  simp only [tyr, cel, aR, Nat.reduceAdd, gE]
  rw [cR (Row.write (v := .fn (.func 85) [] []) (aO _ _ _) JJ rfl (by decide) rfl)]
  simp only [fgr, cel, gE]
  refine ⟨n, rfl, Nat.le_refl _, ⟨⟨[], ⟨.aN, .aN, [], [], ⟨?_, .nil, ⟨rfl, fun j x v hx => by simp at hx⟩, .nil, ⟨rfl, fun j x v hx => by simp at hx⟩, by omega, fun j q => q.elim, fun q => q, fun j q => (by cases q), fun j q => (by cases q)⟩, rfl, fun j q => (by cases q), fun j q => (by cases q), fun j q => ⟨by omega, fun w => w⟩⟩, .nil, .nil⟩, .nil, fun v hv => (by cases hv)⟩, fun j hj => ?_⟩
  · exact Row.new _ _ _ _
  · rw [aH _ _ (by omega), aH _ _ (by omega), o1 j (by omega)]
theorem f34 (x : Nat) (aI : List UInt8) (pn made : Int) (hl : aI.length = 32) (L : List Ver) (D M : Nat → Prop) (h : Hp) (n : Nat) (hs : Ix h n D M x L) (hc : L.length ≤ 1000000) (hf : aY h n) :
    Wp (bH env (aV env) 34 [.ptr x 0, .agg (aS aI pn), .int .i64 made]) h n fun v' h' n' => ((∀ w ∈ L, eR w (key aI pn made) ≠ 0) ∧ v' = .int .i64 210 ∧ Ix h' n' D M x L ∨ ∃ w, w ∈ L ∧ eR w (key aI pn made) = 0 ∧ v' = .int .i64 0 ∧ Ix h' n' D M x (kX L w)) ∧ Chg h n D M h' n' D M := by
  obtain ⟨⟨S, s, rS, perm⟩, rL, ok⟩ := hs
  have s0 := s
  obtain ⟨vl, vs, xl, xs, sv, mx, ml, ms, mn⟩ := s0
  refine aU aO3 aC5 ?_
  simp only [ZF, Try.f34, Option.getD_some, List.replicate, Nat.reduceAdd, Nat.reduceSub, gE]
  refine cG (v := .agg (aS aI pn)) gG rfl hf fun H1 r1 o1 f1 => ?_
  have old1 : Old h H1 n := fun j hj => o1 j (by omega)
  simp only [fgr, hkr, gE]
  refine dA (f73 x _ true H1 (n + 1) (sv.row.aM (old1 x sv.xn)) rfl) ?_
  simp only [fgr, gE]
  have hld : Rd (load env 28 (.ptr n 0)) H1 (n + 1) [n] (.agg (aS aI pn)) := Row.eF r1 gG rfl (bM hl)
  rw [aE hld]
  simp only [hkr, gE]
  have s1 := s.old (n' := n + 1) (by omega) old1
  refine aQ f1 (f76 x aI pn made hl L S D M H1 (n + 1) s1 rL hc f1) fun v2 h2 n2 hn2 f2 ⟨hh, o2⟩ => ?_
  have old2 : Old h h2 n := fun j hj => by rw [o2 j (by omega), old1 j hj]
  have s2 := s1.old hn2 o2
  rcases hh with ⟨hno, e2⟩ | ⟨id, sw, w, hw, hkey, e2, a, d1, d2⟩
  · subst e2
    simp only [tyr, fgr, bor, bL, gK, bS, equal, gN, eN, eO, gE]
    exact ⟨.inl ⟨hno, ⟨⟨S, s2, rS, perm⟩, rL, ok⟩⟩, .of f2 (by omega) old2⟩
  subst e2
  simp only [tyr, fgr, hkr, bor, bL, gK, aR, bS, equal, gN, eN, eO, gE]
  have at2 : AtN h2 n2 id sw w := ⟨a, by have := sv.dn id d1; omega, fun j q => by have := sv.dn j (d2 j q); omega⟩
  refine aQ f2 (VG x id sw w L S D M h2 n2 s2 at2 rL ⟨w, hw, pV.refl w⟩ hc f2) fun v3 h3 n3 hn3 f3 ⟨e3, p, hp, hpl, s3, c3⟩ => ?_
  subst e3
  simp only [tyr, fgr, hkr, aR, gE]
  have hwm : ∀ j, D j → ¬ M j := fun j q w => (mn j w).2 q
  have at3 : AtN h3 n3 id sw w := ⟨a.aM (c3.old id at2.idn (hwm id d1)) (fun j q => c3.old j (at2.sn j q) (hwm j (d2 j q))), by have := at2.idn; omega, fun j q => by have := at2.sn j q; omega⟩
  have hwS : w ∈ S := perm.mem_iff.1 hw
  refine aQ f3 (VF x id sw w _ S D M h3 n3 s3 at3 rS ⟨w, hwS, XA.refl w⟩ (by rw [← perm.length_eq]; exact hc) f3) fun v4 h4 n4 hn4 f4 ⟨e4, q, hq, hql, s4, c4⟩ => ?_
  subst e4
  simp only [fgr, gE]
  obtain ⟨hp1, hp2⟩ := oF rL hp hw
  obtain ⟨hq1, hq2⟩ := oF rS hq hwS
  have perm2 : (iI L p).Perm (iI S q) := by
    have e1 := kE hp1
    have e2 := kE hq1
    rw [hp2] at e1
    rw [hq2] at e2
    exact (List.perm_cons w).1 (e1.symm.trans (perm.trans e2))
  have e : iI L p = kX L w := by unfold kX; rw [← hp.eq]
  have ok2 : ∀ v ∈ iI L p, v.Ok ∧ v.aJ.length ≤ 1000000 := fun v hv => ok v ((kE hp1).mem_iff.2 (List.mem_cons_of_mem _ hv))
  rw [e] at s4 perm2 ok2
  exact ⟨.inr ⟨w, hw, hkey, ⟨⟨_, s4, rM rS q, perm2⟩, by rw [← e]; exact rM rL p, ok2⟩⟩, ⟨((Ch2.of f2 (by omega) old2).trans c3).trans c4, fun j q => q, fun j q => .inl q⟩⟩
theorem ab7 {a b : Ver} (h : HD a b = 0) : eR a b = 0 := by
  unfold HD orI at h
  split at h
  · exact h
  · contradiction
def wL (v : Ver) : Bool := decide (v.made < 0) || (decide (v.bX ≠ 0) && (decide (v.bX < v.made) || decide (v.bX < 0)))
def CI (v : Ver) (L : List Ver) : Prop := wL v = true ∨ ∃ w ∈ L, eR w v = 0
theorem NQ {h : Hp} {n : Nat} {D M : Nat → Prop} {x : Nat} {tv : Ver} {L S : List Ver} {p q : Nat} (hp : Pos false L tv p) (hq : Pos true S tv q) (rL : cQ false L) (rS : cQ true S) (perm : L.Perm S) (ok : ∀ v ∈ L, v.Ok ∧ v.aJ.length ≤ 1000000) (okt : tv.Ok ∧ tv.aJ.length ≤ 1000000)
    (hno : ∀ w ∈ L, eR w tv ≠ 0) (hs : IxS h n D M x (fK L p tv) (fK S q tv)) : Ix h n D M x (nG L tv) := by
  have e : fK L p tv = nG L tv := by unfold nG; rw [← hp.eq]
  have rL2 := vE rL hp hno
  have rS2 := vE rS hq (fun w hw he => hno w (perm.mem_iff.2 hw) (ab7 he))
  have pm : (fK L p tv).Perm (fK S q tv) := (vF L p tv).trans ((List.Perm.cons tv perm).trans (vF S q tv).symm)
  have ok2 : ∀ v ∈ fK L p tv, v.Ok ∧ v.aJ.length ≤ 1000000 := fun v hv => by
    rcases E4.1 hv with rfl | hv
    · exact okt
    · exact ok v hv
  rw [e] at hs rL2 pm ok2
  exact ⟨⟨_, hs, rS2, pm⟩, rL2, ok2⟩
end Go.Am.Ytlgebaofkolkoaa
set_option linter.unusedSimpArgs false
set_option linter.unusedVariables false
set_option linter.defProp false
set_option maxRecDepth 10000
namespace Go.Am.Ytlgebaofkolkoaa
open Go Go.Am Go.Proofs
theorem f33 (x : Nat) (v : Ver) (sv : a9) (ov : v.Ok) (hsl : v.aJ.length ≤ 1000000) (L : List Ver) (D M : Nat → Prop) (h : Hp) (n : Nat) (hs : Ix h n D M x L) (hb : Bytes h sv v.aJ) (hsn : ∀ j, aP sv = some j → j < n) (hc : L.length ≤ 900000) (hf : aY h n) :
    Wp (bH env (aV env) 33 [.ptr x 0, .agg (aK v sv)]) h n fun v' h' n' => (CI v L ∧ v' = .int .i64 210 ∧ Ix h' n' D M x L ∧ Chg h n D M h' n' D M) ∨ (¬ CI v L ∧ v' = .int .i64 0 ∧ ∃ D' M', Ix h' n' D' M' x (nG L v) ∧ Chg h n D M h' n' D' M') := by
  obtain ⟨⟨S, s, rS, perm⟩, rL, ok⟩ := hs
  have s0 := s
  obtain ⟨vl, vs, xl, xs, iv, mx, ml, ms, mn⟩ := s0
  refine aU aO4 aC6 ?_
  simp only [ZG, Try.f33, Option.getD_some, List.replicate, Nat.reduceAdd, Nat.reduceSub, gE]
  refine cG (v := .agg (aK v sv)) cY rfl hf fun H1 r1 o1 f1 => ?_
  have old1 : Old h H1 n := fun j hj => o1 j (by omega)
  have s1 := s.old (n' := n + 1) (by omega) old1
  simp only [fgr, hkr, gE]
  refine dA (f73 x _ true H1 (n + 1) (iv.row.aM (old1 x iv.xn)) rfl) ?_
  simp only [tyr, fgr, aR, gE]
  rw [aE (eX r1 ov)]
  have bad : wL v = true → (CI v L ∧ a9.int .i64 210 = a9.int .i64 210 ∧ Ix H1 (n + 1) D M x L ∧ Chg h n D M H1 (n + 1) D M) ∨ (¬ CI v L ∧ a9.int .i64 210 = a9.int .i64 0 ∧ ∃ D' M', Ix H1 (n + 1) D' M' x (nG L v) ∧ Chg h n D M H1 (n + 1) D' M') := fun e =>
    .inl ⟨.inl e, rfl, ⟨⟨S, s1, rS, perm⟩, rL, ok⟩, .of f1 (by omega) old1⟩
  by_cases c1 : v.made < 0
  · simp only [fgr, bor, bE, c1, gE]
    have := bad (by unfold wL; simp [c1])
    simpa using this
  simp only [tyr, bor, aR, c1, gE]
  rw [aE (dB r1 ov)]
  have go : (v.bX = 0 ∨ (¬ v.bX = 0 ∧ ¬ v.bX < v.made ∧ ¬ v.bX < 0)) ∨ (¬ v.bX = 0 ∧ (v.bX < v.made ∨ (¬ v.bX < v.made ∧ v.bX < 0))) := by omega
  rcases go with (c2 | ⟨c2, c3, c4⟩) | ⟨c2, c3 | ⟨c3, c4⟩⟩
  rotate_left 2
  · simp only [tyr, bor, aR, c2, gE]
    rw [aE (dB r1 ov)]
    simp only [tyr, aR, gE]
    rw [aE (eX r1 ov)]
    simp only [fgr, bor, bE, c3, gE]
    have := bad (by unfold wL; simp [c2, c3])
    simpa using this
  · simp only [tyr, bor, aR, c2, gE]
    rw [aE (dB r1 ov)]
    simp only [tyr, aR, gE]
    rw [aE (eX r1 ov)]
    simp only [tyr, bor, aR, c3, gE]
    rw [aE (dB r1 ov)]
    simp only [fgr, bor, bE, c4, gE]
    have := bad (by unfold wL; simp [c2, c4])
    simpa using this
  all_goals
    have ne : wL v = false := by
      unfold wL
      first | (simp [c1, c2, c3, c4]; done) | (simp [c1, c2]; done)
    first
      | (simp only [tyr, bor, bE, aR, c2, gE]
         rw [aE (iL r1 ov)])
      | (simp only [tyr, bor, aR, c2, gE]
         rw [aE (dB r1 ov)]
         simp only [tyr, aR, gE]
         rw [aE (eX r1 ov)]
         simp only [tyr, bor, aR, c3, gE]
         rw [aE (dB r1 ov)]
         simp only [tyr, bor, bE, aR, c4, gE]
         rw [aE (iL r1 ov)])
    simp only [tyr, aR, gE]
    rw [aE (eX r1 ov)]
    simp only [hkr, gE]
    refine aQ f1 (f76 x v.aI v.pn v.made ov.h L S D M H1 (n + 1) s1 rL (by omega) f1) fun v2 h2 n2 hn2 f2 ⟨hh, o2⟩ => ?_
    have old2 : Old h h2 n := fun j hj => by rw [o2 j (by omega), old1 j hj]
    have s2 := s1.old hn2 o2
    rcases hh with ⟨hno, e2⟩ | ⟨id, sw, w, hw, hkey, e2, a, d1, d2⟩
    rotate_left
    · subst e2
      simp only [tyr, fgr, bor, bL, gK, bE, bS, equal, gN, eN, eO, gE]
      exact .inl ⟨.inr ⟨w, hw, hkey⟩, ⟨⟨S, s2, rS, perm⟩, rL, ok⟩, .of f2 (by omega) old2⟩
    subst e2
    simp only [tyr, fgr, bor, bL, gK, bE, bS, equal, gN, eN, eO, gE]
    have r2 := r1.aM (o2 n (by omega))
    rw [aE (dO r2 ov)]
    simp only [hkr, gE]
    refine aQ f2 (f77 v sv ov h2 n2 (hb.aM fun j q => old2 j (hsn j q)) (fun j q => by have := hsn j q; omega) hsl f2) fun v3 h3 n3 hn3 f3 ⟨s', e3, b3, i3, o3⟩ => ?_
    subst e3
    simp only [gE]
    rw [bU cY rfl]
    simp only [cel, gE]
    refine cK (v := .agg (aK v s')) cY rfl (aZ ov.h ov.b) (c8 b3.kind.2.1) f3 fun H4 r4 o4 f4 => ?_
    have old4 : Old h2 H4 n2 := fun j hj => by rw [o4 j (by omega), o3 j hj]
    have s4 := s2.old (n' := n3 + 1) (by omega) old4
    have at4 : AtN H4 (n3 + 1) n3 s' v := ⟨⟨r4, b3.aM fun j q => o4 j (by have := i3 j q; omega), ov⟩, by omega, fun j q => by have := i3 j q; omega⟩
    simp only [tyr, fgr, hkr, aR, gE]
    refine aQ f4 (ai5 x n3 s' v L S D M H4 (n3 + 1) s4 at4 (fun q => by have := (mn _ q).1; omega) (fun j q w => by have := (mn _ w).1; have := i3 j q; omega) rL (by omega) f4) fun v5 h5 n5 hn5 f5 ⟨e5, p, M5, hp, s5, c5⟩ => ?_
    subst e5
    simp only [tyr, fgr, hkr, aR, gE]
    have nm5 : ∀ j, n2 ≤ j → j < n3 + 1 → ¬ M5 j := fun j q1 q2 w => by
      rcases c5.m' j w with w | w
      · have := (mn _ w).1; omega
      · omega
    have at5 : AtN h5 n5 n3 s' v := ⟨at4.toAt.aM (c5.old n3 (by omega) (fun q => by have := (mn _ q).1; omega)) (fun j q => c5.old j (at4.sn j q) (fun w => by have := (mn _ w).1; have := i3 j q; omega)), by omega, fun j q => by have := at4.sn j q; omega⟩
    refine aQ f5 (ai4 x n3 s' v _ S _ M5 h5 n5 s5 at5 (nm5 n3 (by omega) (by omega)) (fun j q => nm5 j (i3 j q).1 (by have := i3 j q; omega)) rS (by rw [← perm.length_eq]; omega) f5) fun v6 h6 n6 hn6 f6 ⟨e6, q, M6, hq, s6, c6⟩ => ?_
    subst e6
    simp only [fgr, gE]
    have nP : ¬ CI v L := fun w => by
      rcases w with w | ⟨w, hw, he⟩
      · rw [ne] at w; cases w
      · exact hno w hw he
    have o04 : Old h H4 n := fun j hj => by rw [old4 j (by omega), old2 j hj]
    refine .inr ⟨nP, _, _, NQ hp hq rL rS perm ok ⟨ov, hsl⟩ hno s6, ((Ch2.of f4 (by omega) o04).trans c5).trans c6, fun j w => .inl (.inl w), fun j w => ?_⟩
    rcases w with (w | w | w) | w | w
    · exact .inl w
    · subst w; exact .inr (by omega)
    · exact .inr (by have := i3 j w; omega)
    · subst w; exact .inr (by omega)
    · exact .inr (by have := i3 j w; omega)
theorem CK {L : List Ver} {p : Nat} {w : Ver} (h : w ∈ iI L p) : w ∈ L := by
  unfold iI at h
  rcases List.mem_append.1 h with h | h
  · exact List.mem_of_mem_take h
  · exact List.mem_of_mem_drop h
theorem ab5 {o : Bool} {L : List Ver} {p : Nat} {w t : Ver} (r : cQ o L) (hp : Pos o L w p) (hw : w ∈ L) (he : iD o w t = 0) : ∀ a ∈ iI L p, iD o a t ≠ 0 := by
  intro a ha h0
  obtain ⟨hp1, hp2⟩ := oF r hp hw
  have haw : iD o a w = 0 := by
    have := (BP o).eqr (d := a) he
    omega
  have e : a = w := kN r (CK ha) hw haw
  subst e
  have pm := kE hp1
  rw [hp2] at pm
  have nd : L.Nodup := by
    refine List.Pairwise.imp ?_ r
    intro a b hab e
    subst e
    have := (BP o).refl a
    omega
  have := pm.nodup_iff.1 nd
  exact (List.nodup_cons.1 this).1 ha
theorem f80 (x id : Nat) (sw : a9) (w v : Ver) (L : List Ver) (D M : Nat → Prop) (h : Hp) (n : Nat) (hs : Ix h n D M x L) (hw : w ∈ L) (a : At h id sw w) (d1 : D id) (d2 : ∀ j, aP sw = some j → D j) (hv : eR w v = 0) (hvs : v.aJ = w.aJ) (ov : v.Ok) (hc : L.length ≤ 900000) (hf : aY h n) :
    Wp (bH env (aV env) 80 [.ptr x 0, .ptr id 0, .agg (aK v sw)]) h n fun v' h' n' => v' = .tup [] ∧ ∃ D' M', Ix h' n' D' M' x (nG (kX L w) v) ∧ Chg h n D M h' n' D' M' := by
  obtain ⟨⟨S, s, rS, perm⟩, rL, ok⟩ := hs
  have s0 := s
  obtain ⟨vl, vs, xl, xs, iv, mx, ml, ms, mn⟩ := s0
  refine aU aL3 az5 ?_
  simp only [YM, Try.f80, Option.getD_some, List.replicate, Nat.reduceAdd, Nat.reduceSub, gE]
  refine cG (v := .agg (aK v sw)) cY rfl hf fun H1 r1 o1 f1 => ?_
  have old1 : Old h H1 n := fun j hj => o1 j (by omega)
  have s1 := s.old (n' := n + 1) (by omega) old1
  have hdm : ∀ j, D j → ¬ M j := fun j q w => (mn j w).2 q
  have a1 : AtN H1 (n + 1) id sw w := ⟨a.aM (old1 id (iv.dn id d1)) (fun j q => old1 j (iv.dn j (d2 j q))), by have := iv.dn id d1; omega, fun j q => by have := iv.dn j (d2 j q); omega⟩
  have b1 : AtN H1 (n + 1) n sw v := ⟨⟨r1, by rw [hvs]; exact a1.s, ov⟩, by omega, a1.sn⟩
  simp only [tyr, fgr, hkr, aR, gE]
  refine aQ f1 (VG x id sw w L S D M H1 (n + 1) s1 a1 rL ⟨w, hw, pV.refl w⟩ (by omega) f1) fun v3 h3 n3 hn3 f3 ⟨e3, p, hp, hpl, s3, c3⟩ => ?_
  subst e3
  simp only [tyr, fgr, hkr, aR, gE]
  have nM : ¬ M n := fun q => by have := (mn n q).1; omega
  have a3 : AtN h3 n3 id sw w := ⟨a1.toAt.aM (c3.old id a1.idn (hdm id d1)) (fun j q => c3.old j (a1.sn j q) (hdm j (d2 j q))), by have := a1.idn; omega, fun j q => by have := a1.sn j q; omega⟩
  have b3 : AtN h3 n3 n sw v := ⟨b1.toAt.aM (c3.old n (by omega) nM) (fun j q => c3.old j (a1.sn j q) (hdm j (d2 j q))), by omega, a3.sn⟩
  have hwS : w ∈ S := perm.mem_iff.1 hw
  refine aQ f3 (VF x id sw w _ S D M h3 n3 s3 a3 rS ⟨w, hwS, XA.refl w⟩ (by rw [← perm.length_eq]; omega) f3) fun v4 h4 n4 hn4 f4 ⟨e4, q, hq, hql, s4, c4⟩ => ?_
  subst e4
  simp only [tyr, fgr, hkr, aR, gE]
  have b4 : AtN h4 n4 n sw v := ⟨b3.toAt.aM (c4.old n (by omega) nM) (fun j q => c4.old j (a3.sn j q) (hdm j (d2 j q))), by omega, fun j q => by have := a3.sn j q; omega⟩
  obtain ⟨hp1, hp2⟩ := oF rL hp hw
  obtain ⟨hq1, hq2⟩ := oF rS hq hwS
  have perm2 : (iI L p).Perm (iI S q) := by
    have e1 := kE hp1
    have e2 := kE hq1
    rw [hp2] at e1
    rw [hq2] at e2
    exact (List.perm_cons w).1 (e1.symm.trans (perm.trans e2))
  have e : iI L p = kX L w := by unfold kX; rw [← hp.eq]
  have ok2 : ∀ v ∈ iI L p, v.Ok ∧ v.aJ.length ≤ 1000000 := fun v hv => ok v (CK hv)
  have hno : ∀ a ∈ iI L p, eR a v ≠ 0 := ab5 rL hp hw hv
  have rL2 := rM rL p
  have rS2 := rM rS q
  have hl2 : (iI L p).length ≤ 900000 := by have := qJ hp1; omega
  refine aQ f4 (ai5 x n sw v _ _ D M h4 n4 s4 b4 nM (fun j q => hdm j (d2 j q)) rL2 (by omega) f4) fun v5 h5 n5 hn5 f5 ⟨e5, p5, M5, hp5, s5, c5⟩ => ?_
  subst e5
  simp only [tyr, fgr, hkr, aR, gE]
  have nm5 : ∀ j, j < n4 → ¬ M j → ¬ M5 j := fun j q1 q2 w => by
    rcases c5.m' j w with w | w
    · exact q2 w
    · omega
  have b5 : AtN h5 n5 n sw v := ⟨b4.toAt.aM (c5.old n (by omega) nM) (fun j q => c5.old j (b4.sn j q) (hdm j (d2 j q))), by omega, fun j q => by have := b4.sn j q; omega⟩
  refine aQ f5 (ai4 x n sw v _ _ _ M5 h5 n5 s5 b5 (nm5 n (by omega) nM) (fun j q => nm5 j (b4.sn j q) (hdm j (d2 j q))) rS2 (by rw [← perm2.length_eq]; omega) f5) fun v6 h6 n6 hn6 f6 ⟨e6, q6, M6, hq6, s6, c6⟩ => ?_
  subst e6
  simp only [bI, fgr, bP, put, aF, true_and]
  have fin := NQ hp5 hq6 rL2 rS2 perm2 ok2 ⟨ov, by rw [hvs]; exact (ok w hw).2⟩ hno s6
  rw [e] at fin
  refine ⟨_, _, fin, ((((Ch2.of f1 (by omega) old1).trans c3).trans c4).trans c5).trans c6, fun j w => .inl (.inl w), fun j w => ?_⟩
  rcases w with (w | w | w) | w | w
  · exact .inl w
  · subst w; exact .inr (by omega)
  · exact .inl (d2 j w)
  · subst w; exact .inr (by omega)
  · exact .inl (d2 j w)
theorem lL {pre mid fA vs : List a9} {off : Nat} (h1 : pre.length = off) (h2 : mid.length = vs.length) : bV (pre ++ (mid ++ fA)) off vs = pre ++ (vs ++ fA) := by
  have e : (pre ++ (mid ++ fA)).drop (off + vs.length) = fA := by rw [← List.append_assoc, List.drop_left' (by rw [List.length_append]; omega)]
  unfold bV
  rw [List.take_left' h1, e]
theorem mS {w : Ver} {sv : a9} (h : w.aI.length = 32) (s : Int) : bV (aK w sv) 37 [.int .i64 s] = aK { w with bX := s } sv := by
  have e : aK w sv = (aS w.aI w.pn ++ [.int .i64 w.made, .int .i64 w.value, sv, .bool w.cX]) ++ ([.int .i64 w.bX] ++ w.by_.map u8) := by simp [aK, nB]
  rw [e, lL (mid := [.int .i64 w.bX]) (vs := [.int .i64 s]) (by rw [List.length_append, bM h]; rfl) rfl]
  simp [aK, nB]
theorem sL {w : Ver} {sv : a9} (h : w.aI.length = 32) (h2 : w.by_.length = 32) (b : List UInt8) (hb : b.length = 32) : bV (aK w sv) 38 (b.map u8) = aK { w with by_ := b } sv := by
  have e : aK w sv = (aS w.aI w.pn ++ [.int .i64 w.made, .int .i64 w.value, sv, .bool w.cX, .int .i64 w.bX]) ++ (w.by_.map u8 ++ []) := by simp [aK, nB]
  rw [e, lL (by rw [List.length_append, bM h]; rfl) (by simp [h2, hb])]
  simp [aK, nB]
def fY (w : Ver) (s : Int) (b : List UInt8) : Ver := { w with bX := s, by_ := b }
theorem f36 (x : Nat) (aI : List UInt8) (pn made s : Int) (b : List UInt8) (hl : aI.length = 32) (hbl : b.length = 32) (L : List Ver) (D M : Nat → Prop) (h : Hp) (n : Nat) (hs : Ix h n D M x L) (hc : L.length ≤ 900000) (hf : aY h n) :
    Wp (bH env (aV env) 36 [.ptr x 0, .agg (aS aI pn), .int .i64 made, .int .i64 s, .agg (b.map u8)]) h n fun v' h' n' =>
      ((∀ w ∈ L, eR w (key aI pn made) = 0 → (w.bX ≠ 0 ∨ s < 1 ∨ s < made)) ∧ v' = .int .i64 210 ∧ Ix h' n' D M x L ∧ Chg h n D M h' n' D M) ∨
      (∃ w ∈ L, eR w (key aI pn made) = 0 ∧ w.bX = 0 ∧ 1 ≤ s ∧ made ≤ s ∧ v' = .int .i64 0 ∧ ∃ D' M', Ix h' n' D' M' x (nG (kX L w) (fY w s b)) ∧ Chg h n D M h' n' D' M') := by
  have hs0 := hs
  obtain ⟨⟨S, s0, rS, perm⟩, rL, ok⟩ := hs
  have s00 := s0
  obtain ⟨vl, vs, xl, xs, iv, mx, ml, ms, mn⟩ := s00
  refine aU aO1 aC3 ?_
  simp only [ZE, Try.f36, Option.getD_some, List.replicate, Nat.reduceAdd, Nat.reduceSub, gE]
  refine cG (v := .agg (aS aI pn)) gG rfl hf fun H1 r1 o1 f1 => ?_
  simp only [gE]
  refine cG (v := .agg (b.map u8)) nC rfl f1 fun H2 r2 o2 f2 => ?_
  have old2 : Old h H2 n := fun j hj => by rw [o2 j (by omega), o1 j (by omega)]
  have r1 := r1.aM (o2 n (by omega))
  simp only [fgr, hkr, gE]
  refine dA (f73 x _ true H2 (n + 1 + 1) (iv.row.aM (old2 x iv.xn)) rfl) ?_
  simp only [fgr, gE]
  have hld : Rd (load env 28 (.ptr n 0)) H2 (n + 1 + 1) [n] (.agg (aS aI pn)) := Row.eF r1 gG rfl (bM hl)
  rw [aE hld]
  simp only [hkr, gE]
  have s2 := s0.old (n' := n + 1 + 1) (by omega) old2
  refine aQ f2 (f76 x aI pn made hl L S D M H2 _ s2 rL (by omega) f2) fun v3 h3 n3 hn3 f3 ⟨hh, o3⟩ => ?_
  have old3 : Old h h3 n := fun j hj => by rw [o3 j (by omega), old2 j hj]
  have ix3 : Ix h3 n3 D M x L := hs0.old (by omega) old3
  rcases hh with ⟨hno, e2⟩ | ⟨id, sw, w, hw, hkey, e2, a, d1, d2⟩
  · subst e2
    simp only [tyr, fgr, bor, bL, gK, bE, bS, equal, gN, eN, eO, gE]
    exact .inl ⟨fun w hw he => absurd he (hno w hw), ix3, .of f3 (by omega) old3⟩
  subst e2
  have uq : ∀ u ∈ L, eR u (key aI pn made) = 0 → u = w := fun u hu he => kN rL hu hw (by
    have := pV.eqr (d := u) hkey
    show eR u w = 0
    omega)
  have okw := ok w hw
  by_cases c1 : w.bX = 0
  rotate_left
  · simp only [tyr, fgr, bor, bL, gK, aR, bS, equal, gN, eN, eO, gE]
    rw [aE (dB a.row okw.1)]
    simp only [fgr, bor, bE, c1, gE]
    exact .inl ⟨fun u hu he => by rw [uq u hu he]; exact .inl c1, ix3, .of f3 (by omega) old3⟩
  by_cases c2 : s < 1
  · simp only [tyr, fgr, bor, bL, gK, aR, bS, equal, gN, eN, eO, gE]
    rw [aE (dB a.row okw.1)]
    simp only [fgr, bor, bE, c1, c2, gE]
    exact .inl ⟨fun u hu he => by simp, ix3, .of f3 (by omega) old3⟩
  by_cases c3 : s < made
  · simp only [tyr, fgr, bor, bL, gK, aR, bS, equal, gN, eN, eO, gE]
    rw [aE (dB a.row okw.1)]
    simp only [fgr, bor, bE, c1, c2, c3, gE]
    exact .inl ⟨fun u hu he => by simp, ix3, .of f3 (by omega) old3⟩
  simp only [tyr, fgr, bor, bL, gK, aR, bS, equal, gN, eN, eO, gE]
  rw [aE (dB a.row okw.1)]
  simp only [fgr, bor, bE, c1, c2, c3, gE]
  rw [aE (dO a.row okw.1)]
  simp only [gE]
  rw [bU cY rfl]
  simp only [cel, gE]
  refine cK (v := .agg (aK w sw)) cY rfl (aZ okw.1.h okw.1.b) (c8 a.s.kind.2.1) f3 fun H4 r4 o4 f4 => ?_
  have r2 : Row H4 (n + 1) (b.map u8) := (r2.aM (o3 (n + 1) (by omega))).aM (o4 (n + 1) (by omega))
  obtain ⟨e4, r4⟩ := r4
  simp only [bI, fgr, bP, aF]
  refine bW ⟨rfl, ?_⟩
  simp only [gE]
  have hld2 : Rd (load env 25 (.ptr (n + 1) 0)) H4 (n3 + 1) [n + 1] (.agg (b.map u8)) := Row.eF r2 nC rfl (by simp [hbl])
  rw [aW hld2]
  simp only [tyr, aR, Nat.reduceAdd, gE]
  refine jN (Row.write (v := .int .i64 s) r4 ti3 rfl (by show 37 + 1 ≤ (aK w sw).length; rw [aZ okw.1.h okw.1.b]; decide) rfl) ?_
  simp only [tyr, cel, aR, Nat.reduceAdd, gE]
  have w1 : bV (aK w sw) 37 [a9.int .i64 s] = aK { w with bX := s } sw := mS okw.1.h s
  rw [w1]
  refine jN (Row.write (v := .agg (b.map u8)) (aO _ _ _) nC (by simp [a9.cells, hbl]) (by show 38 + 32 ≤ _; rw [aZ (v := { w with bX := s }) okw.1.h okw.1.b]; decide) (uU b)) ?_
  have w2 : bV (aK { w with bX := s } sw) 38 (a9.agg (b.map u8)).cells = aK (fY w s b) sw := sL (w := { w with bX := s }) okw.1.h okw.1.b b hbl
  rw [w2]
  simp only [fgr, Nat.reduceAdd, gE]
  refine ⟨(by (try simp (disch := omega) only [cJ, gF]); repeat' (first | rfl | exact (Bool.or_eq_true _ _).mpr (.inr rfl) | refine (Bool.and_eq_true _ _).mpr ⟨?_, ?_⟩)), ?_⟩
  have f5 : aY (upd (upd H4 n3 (some (Blk.row (bG.l (aK { w with bX := s } sw)) e4))) n3 (some (Blk.row (bG.l (aK (fY w s b) sw)) e4))) (n3 + 1) := (f4.upd (by omega)).upd (by omega)
  obtain ⟨H5, hH5⟩ : ∃ H5, H5 = upd (upd H4 n3 (some (Blk.row (bG.l (aK { w with bX := s } sw)) e4))) n3 (some (Blk.row (bG.l (aK (fY w s b) sw)) e4)) := ⟨_, rfl⟩
  have o5 : ∀ j, j ≠ n3 → H5 j = h3 j := fun j hj => by rw [hH5, aH _ _ hj, aH _ _ hj, o4 j hj]
  have r5 : Row H5 n3 (aK (fY w s b) sw) := by rw [hH5]; exact Row.new _ _ _ _
  rw [← hH5] at f5
  rw [← hH5]
  clear hH5
  have ov5 : (fY w s b).Ok := ⟨okw.1.h, hbl⟩
  rw [aE (dO r5 ov5)]
  simp only [hkr, gE]
  have old5 : Old h H5 n := fun j hj => by rw [o5 j (by omega), old3 j hj]
  have ix5 : Ix H5 (n3 + 1) D M x L := hs0.old (by omega) old5
  have a5 : At H5 id sw w := a.aM (o5 id (by have := iv.dn id d1; omega)) (fun j q => o5 j (by have := iv.dn j (d2 j q); omega))
  refine aQ f5 (f80 x id sw w (fY w s b) L D M H5 (n3 + 1) ix5 hw a5 d1 d2 (pV.refl w) rfl ov5 hc f5) fun v6 h6 n6 hn6 f6 ⟨e6, D', M', ix6, c6⟩ => ?_
  subst e6
  simp only [fgr, gE]
  exact .inr ⟨w, hw, hkey, c1, by omega, by omega, D', M', ix6, (Chg.of f5 (by omega) old5).trans c6⟩
def z32 : List UInt8 := List.replicate 32 0
theorem b25 : build env 25 [] = M.pure (.agg (z32.map u8)) := rfl
theorem f38 (x : Nat) (aI : List UInt8) (pn made : Int) (hl : aI.length = 32) (L : List Ver) (D M : Nat → Prop) (h : Hp) (n : Nat) (hs : Ix h n D M x L) (hc : L.length ≤ 900000) (hf : aY h n) :
    Wp (bH env (aV env) 38 [.ptr x 0, .agg (aS aI pn), .int .i64 made]) h n fun v' h' n' =>
      ((∀ w ∈ L, eR w (key aI pn made) = 0 → w.bX = 0) ∧ v' = .int .i64 210 ∧ Ix h' n' D M x L ∧ Chg h n D M h' n' D M) ∨
      (∃ w ∈ L, eR w (key aI pn made) = 0 ∧ w.bX ≠ 0 ∧ v' = .int .i64 0 ∧ ∃ D' M', Ix h' n' D' M' x (nG (kX L w) (fY w 0 z32)) ∧ Chg h n D M h' n' D' M') := by
  have hs0 := hs
  obtain ⟨⟨S, s0, rS, perm⟩, rL, ok⟩ := hs
  have s00 := s0
  obtain ⟨vl, vs, xl, xs, iv, mx, ml, ms, mn⟩ := s00
  refine aU aN9 aC1 ?_
  simp only [ZC, Try.f38, Option.getD_some, List.replicate, Nat.reduceAdd, Nat.reduceSub, gE]
  refine cG (v := .agg (aS aI pn)) gG rfl hf fun H2 r1 o1 f2 => ?_
  have old2 : Old h H2 n := fun j hj => by rw [o1 j (by omega)]
  simp only [fgr, hkr, gE]
  refine dA (f73 x _ true H2 (n + 1) (iv.row.aM (old2 x iv.xn)) rfl) ?_
  simp only [fgr, gE]
  have hld : Rd (load env 28 (.ptr n 0)) H2 (n + 1) [n] (.agg (aS aI pn)) := Row.eF r1 gG rfl (bM hl)
  rw [aE hld]
  simp only [hkr, gE]
  have s2 := s0.old (n' := n + 1) (by omega) old2
  refine aQ f2 (f76 x aI pn made hl L S D M H2 _ s2 rL (by omega) f2) fun v3 h3 n3 hn3 f3 ⟨hh, o3⟩ => ?_
  have old3 : Old h h3 n := fun j hj => by rw [o3 j (by omega), old2 j hj]
  have ix3 : Ix h3 n3 D M x L := hs0.old (by omega) old3
  rcases hh with ⟨hno, e2⟩ | ⟨id, sw, w, hw, hkey, e2, a, d1, d2⟩
  · subst e2
    simp only [tyr, fgr, bor, bL, gK, bE, bS, equal, gN, eN, eO, gE]
    exact .inl ⟨fun w hw he => absurd he (hno w hw), ix3, .of f3 (by omega) old3⟩
  subst e2
  have uq : ∀ u ∈ L, eR u (key aI pn made) = 0 → u = w := fun u hu he => kN rL hu hw (by
    have := pV.eqr (d := u) hkey
    show eR u w = 0
    omega)
  have okw := ok w hw
  by_cases c1 : w.bX = 0
  · simp only [tyr, fgr, bor, bL, gK, aR, bS, equal, gN, eN, eO, gE]
    rw [aE (dB a.row okw.1)]
    simp only [fgr, bor, bE, c1, gE]
    exact .inl ⟨fun u hu he => by rw [uq u hu he]; exact c1, ix3, .of f3 (by omega) old3⟩
  simp only [tyr, fgr, bor, bL, gK, aR, bS, equal, gN, eN, eO, gE]
  rw [aE (dB a.row okw.1)]
  simp only [fgr, bor, bE, c1, gE]
  rw [aE (dO a.row okw.1)]
  simp only [gE]
  rw [bU cY rfl]
  simp only [cel, gE]
  refine cK (v := .agg (aK w sw)) cY rfl (aZ okw.1.h okw.1.b) (c8 a.s.kind.2.1) f3 fun H4 r4 o4 f4 => ?_
  obtain ⟨e4, r4⟩ := r4
  simp only [tyr, fgr, aR, b25, gE]
  rw [cR (Row.write (v := .int .i64 0) r4 ti3 rfl (by show 37 + 1 ≤ (aK w sw).length; rw [aZ okw.1.h okw.1.b]; decide) rfl)]
  simp only [tyr, cel, aR, gE]
  have w1 : bV (aK w sw) 37 [a9.int .i64 0] = aK { w with bX := 0 } sw := mS okw.1.h 0
  rw [w1]
  rw [cR (Row.write (v := .agg (z32.map u8)) (aO _ _ _) nC rfl (by show 38 + 32 ≤ _; rw [aZ (v := { w with bX := 0 }) okw.1.h okw.1.b]; decide) (uU z32))]
  have w2 : bV (aK { w with bX := 0 } sw) 38 (a9.agg (z32.map u8)).cells = aK (fY w 0 z32) sw := sL (w := { w with bX := 0 }) okw.1.h okw.1.b z32 rfl
  rw [w2]
  simp only [fgr, gE]
  have f5 : aY (upd (upd H4 n3 (some (Blk.row (bG.l (aK { w with bX := 0 } sw)) e4))) n3 (some (Blk.row (bG.l (aK (fY w 0 z32) sw)) e4))) (n3 + 1) := (f4.upd (by omega)).upd (by omega)
  obtain ⟨H5, hH5⟩ : ∃ H5, H5 = upd (upd H4 n3 (some (Blk.row (bG.l (aK { w with bX := 0 } sw)) e4))) n3 (some (Blk.row (bG.l (aK (fY w 0 z32) sw)) e4)) := ⟨_, rfl⟩
  have o5 : ∀ j, j ≠ n3 → H5 j = h3 j := fun j hj => by rw [hH5, aH _ _ hj, aH _ _ hj, o4 j hj]
  have r5 : Row H5 n3 (aK (fY w 0 z32) sw) := by rw [hH5]; exact Row.new _ _ _ _
  rw [← hH5] at f5
  rw [← hH5]
  clear hH5
  have ov5 : (fY w 0 z32).Ok := ⟨okw.1.h, rfl⟩
  rw [aE (dO r5 ov5)]
  simp only [hkr, gE]
  have old5 : Old h H5 n := fun j hj => by rw [o5 j (by omega), old3 j hj]
  have ix5 : Ix H5 (n3 + 1) D M x L := hs0.old (by omega) old5
  have a5 : At H5 id sw w := a.aM (o5 id (by have := iv.dn id d1; omega)) (fun j q => o5 j (by have := iv.dn j (d2 j q); omega))
  refine aQ f5 (f80 x id sw w (fY w 0 z32) L D M H5 (n3 + 1) ix5 hw a5 d1 d2 (pV.refl w) rfl ov5 hc f5) fun v6 h6 n6 hn6 f6 ⟨e6, D', M', ix6, c6⟩ => ?_
  subst e6
  simp only [fgr, gE]
  exact .inr ⟨w, hw, hkey, c1, D', M', ix6, (Chg.of f5 (by omega) old5).trans c6⟩
structure Vs (h : Hp) (D : Nat → Prop) (cells : List a9) (vs : List Ver) : Prop where
  len : cells.length = vs.length * 70
  at_ : ∀ (j : Nat) (hj : j < vs.length), ∃ sv, (cells.drop (j * 70)).take 70 = aK vs[j] sv ∧ Bytes h sv vs[j].aJ ∧ vs[j].Ok ∧ ∀ i, aP sv = some i → D i
theorem Vs.nil (h : Hp) (D : Nat → Prop) : Vs h D [] [] := ⟨rfl, fun j hj => by simp at hj⟩
theorem Vs.mono {h h' : Hp} {D D' : Nat → Prop} {cells : List a9} {vs : List Ver} (p : Vs h D cells vs) (hd : ∀ j, D j → D' j) (hk : ∀ j, D j → h' j = h j) : Vs h' D' cells vs :=
  ⟨p.len, fun j hj => by
    obtain ⟨sv, e, b, o, d⟩ := p.at_ j hj
    exact ⟨sv, e, b.aM (fun i hi => hk i (d i hi)), o, fun i hi => hd i (d i hi)⟩⟩
theorem Vs.zH {h : Hp} {D : Nat → Prop} {cells : List a9} {vs : List Ver} (p : Vs h D cells vs) {v : Ver} {sv : a9} (hb : Bytes h sv v.aJ) (ho : v.Ok) (hd : ∀ i, aP sv = some i → D i) : Vs h D (cells ++ aK v sv) (vs ++ [v]) := by
  have hl := p.len
  have hv := aZ (sv := sv) ho.h ho.b
  refine ⟨by simp [hl, hv]; omega, fun j hj => ?_⟩
  by_cases c : j < vs.length
  · obtain ⟨s2, e, b, o, d⟩ := p.at_ j c
    refine ⟨s2, ?_, ?_, ?_, d⟩
    · rw [List.drop_append_of_le_length (by omega), List.take_append_of_le_length (by rw [List.length_drop]; omega), e, List.getElem_append_left c]
    · rw [List.getElem_append_left c]; exact b
    · rw [List.getElem_append_left c]; exact o
  · have e : j = vs.length := by simp at hj; omega
    subst e
    refine ⟨sv, ?_, ?_, ?_, hd⟩
    · rw [← hl, List.drop_left, List.take_of_length_le (by omega)]; simp
    · simpa using hb
    · simpa using ho
theorem u43 : und env 43 = M.pure (.slice 31) := rfl
theorem LL : sizeOf env 31 = M.pure 70 := rfl
theorem LB {X : List a9} (hX : X.length = 70) : buildSlice env 43 1 [(0, .agg X)] = (newRow env 31 X).bind fun id => M.pure (.sl id 0 1 (some 1) 70) := by
  have e1 : fill (fun k => some (k * 70, 70)) (eY eK.i.zero.cells 1) [(0, .agg X)] = some X := by
    have : eY eK.i.zero.cells 1 = [] ++ eK.i.zero.cells ++ [] := rfl
    rw [this, gW (off := 0) (sz := 70) (pre := []) (mid := eK.i.zero.cells) (fA := []) (v := .agg X) (rest := []) rfl rfl rfl hX rfl]
    simp [fill, a9.cells]
  have e2 : buildSlice env 43 1 [(0, .agg X)] = (fV "buildSlice" (fill (fun k => some (k * 70, 70)) (eY eK.i.zero.cells 1) [(0, .agg X)])).bind fun cs => (newRow env 31 cs).bind fun id => M.pure (.sl id 0 1 (some 1) 70) := rfl
  rw [e2, e1]
  rfl
def IsF (F : a9) (is : Ver → Bool) (h0 : Hp) (n0 : Nat) : Prop := ∀ (h : Hp) (n id : Nat) (sv : a9) (v : Ver), n0 ≤ n → Old h0 h n0 → AtN h n id sv v → aY h n → Wp (jQ env (aV env) F [.ptr id 0]) h n fun v' h' n' => v' = .bool (is v) ∧ Old h h' n
theorem XM (Q : dI) (ks : List Kf) (F : a9) (is : Ver → Bool) (v : a9) (cnt : Nat) (xs : List a9) (vs : List Ver) (D : Nat → Prop) (h0 : Hp) (n0 : Nat) (hF : IsF F is h0 n0) (hc : cnt ≤ 1000000) (hv : Rds h0 1 v cnt xs) (hvn : ∀ j, aP v = some j → j < n0) (hp : Ps h0 D xs vs) (hD : ∀ j, D j → j < n0) (hsl : ∀ v ∈ vs, v.aJ.length ≤ 1000000)
    (hT : ∀ (h : Hp) (n : Nat) (acc : a9) (cells : List a9) (x4 x7 x11 x16 : a9), Lst h 31 70 acc (vs.filter is).length cells → Vs h (fun j => n0 ≤ j ∧ j < n ∧ aP acc ≠ some j) cells (vs.filter is) → (∀ j, aP acc = some j → n0 ≤ j) → n0 ≤ n → aY h n → Old h0 h n0 →
      cV env 74 none Q ks (.exit 0) (v :: F :: a9.aA :: a9.aA :: x4 :: acc :: a9.aA :: x7 :: v :: .int .i64 (cnt : Nat) :: .int .i64 (cnt : Nat) :: x11 :: a9.aA :: a9.aA :: a9.aA :: a9.aA :: x16 :: a9.aA :: a9.aA :: a9.aA :: a9.aA :: a9.aA :: a9.aA :: a9.aA :: a9.aA :: a9.aA :: []) h n) :
    ∀ (m i : Nat) (h : Hp) (n : Nat) (acc : a9) (cells : List a9) (x4 x7 x11 x16 : a9), i + m = cnt → Lst h 31 70 acc ((vs.take i).filter is).length cells → Vs h (fun j => n0 ≤ j ∧ j < n ∧ aP acc ≠ some j) cells ((vs.take i).filter is) → (∀ j, aP acc = some j → n0 ≤ j) → n0 ≤ n → aY h n → Old h0 h n0 →
      Run env 74 none Q (.loop G7) ks (v :: F :: a9.aA :: a9.aA :: x4 :: acc :: a9.aA :: x7 :: v :: .int .i64 (cnt : Nat) :: .int .i64 (i : Nat) :: x11 :: a9.aA :: a9.aA :: a9.aA :: a9.aA :: x16 :: a9.aA :: a9.aA :: a9.aA :: a9.aA :: a9.aA :: a9.aA :: a9.aA :: a9.aA :: a9.aA :: []) h n := by
  have hcl : cnt = vs.length := by have := hv.length; have := hp.len; omega
  intro m
  induction m with
  | zero =>
    intro i h n acc cells x4 x7 x11 x16 hm ha hV hi hn hf ho
    have : i = cnt := by omega
    subst this
    rw [bO]
    have hcc : ¬ (((i : Nat) : Int) < ((i : Nat) : Int)) := by omega
    simp only [G7, bC, Try.f74, Option.getD_some, fgr, bor, List.getD_cons_zero, hcc, gE]
    rw [hcl, List.take_length] at ha hV
    exact hT h n acc cells _ _ _ _ ha hV hi hn hf ho
  | succ m ih =>
    intro i h n acc cells x4 x7 x11 x16 hm ha hV hi hn hf ho
    rw [bO]
    have hil : i < cnt := by omega
    have hcc : (((i : Nat) : Int) < ((cnt : Nat) : Int)) := by omega
    have hv' := hv.aM (h' := h) (fun j hj => ho j (hvn j hj))
    have hp' := hp.mono (D' := D) (fun _ q => q) (fun j hj => ho j (hD j hj))
    obtain ⟨id, sv, hx, a, d1, d2⟩ := hp'.get (j := i) (by omega)
    have hidx := hv'.idx (E := env) u95 rU (kk := .i64) (z := ((i : Nat) : Int)) (j := i) rfl hil (h' := h) (n' := n)
    have hld := hv'.load (E := env) iT rfl (k := i * 1) (n := n) (by rw [Nat.mul_one]; exact hx)
    have atn : AtN h n id sv (vs[i]'(by omega)) := ⟨a, by have := hD _ d1; omega, fun q hq => by have := hD _ (d2 q hq); omega⟩
    have w1 : IntKind.i64.wrap (((i : Nat) : Int) + 1) = ((i + 1 : Nat) : Int) := by rw [w64 (by omega) (by omega)]; omega
    have htk : vs.take (i + 1) = vs.take i ++ [vs[i]'(by omega)] := by rw [List.take_add_one, List.getElem?_eq_getElem (by omega)]; rfl
    simp only [G7, bC, Try.f74, Option.getD_some, fgr, bor, List.getD_cons_zero, hcc, gE]
    rw [aE hidx]
    simp only [gE]
    rw [aE hld]
    simp only [fgr, gE]
    refine aQ hf (hF h n id sv _ hn ho atn hf) fun v1 h1 n1 hn1 f1 ⟨e1, o1⟩ => ?_
    subst e1
    have ho1 : Old h0 h1 n0 := fun q hq => (o1 q (by omega)).trans (ho q hq)
    have ha1 := ha.aM (h' := h1) (fun j q => o1 j (ha.dL hf q))
    have hV1 := hV.mono (h' := h1) (D' := fun j => n0 ≤ j ∧ j < n1 ∧ aP acc ≠ some j) (fun j q => ⟨q.1, by omega, q.2.2⟩) (fun j q => o1 j q.2.1)
    have at1 := atn.old hn1 o1
    cases hq : is (vs[i]'(by omega)) with
    | false =>
      simp only [fgr, bor, bZ, w1, gE]
      exact ih (i + 1) h1 n1 acc cells _ _ _ _ (by omega) (by rw [htk, List.filter_append]; simpa [hq] using ha1) (by rw [htk, List.filter_append]; simpa [hq] using hV1) hi (by omega) f1 ho1
    | true =>
      simp only [fgr, gE]
      rw [aE (dO at1.row at1.ok)]
      simp only [hkr, gE]
      refine aQ f1 (f77 _ sv at1.ok h1 n1 at1.s at1.sn (hsl _ (List.getElem_mem _)) f1) fun v2 h2 n2 hn2 f2 ⟨s', e2, b2, i2, o2⟩ => ?_
      subst e2
      simp only [tyr, builtin, newRow, LB (aZ at1.ok.h at1.ok.b), gE]
      obtain ⟨H3, hH3⟩ : ∃ H3, H3 = upd h2 n2 (some (Blk.row (bG.l (aK (vs[i]'(by omega)) s')) 31)) := ⟨_, rfl⟩
      have f3 : aY H3 (n2 + 1) := by rw [hH3]; exact f2.new
      have o3 : ∀ j, j ≠ n2 → H3 j = h2 j := fun j hj => by rw [hH3, aH _ _ hj]
      have r3 : H3 n2 = some (Blk.row (bG.l (aK (vs[i]'(by omega)) s')) 31) := by rw [hH3, aO]
      rw [← hH3]
      clear hH3
      have o13 : Old h1 H3 n1 := fun j hj => by rw [o3 j (by omega), o2 j hj]
      have ha3 := ha1.aM (h' := H3) (fun j q => o13 j (ha1.dL f1 q))
      have hlen : ((vs.take i).filter is).length ≤ 1000000 := by
        have h1 := List.length_filter_le is (vs.take i)
        have h2 : (vs.take i).length ≤ vs.length := by rw [List.length_take]; omega
        omega
      refine dP (i := eK.i) (e := 31) ha3 (kY (cnt := 1) r3 (by rw [aZ at1.ok.h at1.ok.b]; rfl)) u43 u43 cY (c8 b2.kind.2.1) (by decide) (by show 2 * (_ + 1) * 128 ≤ _; omega) (by omega) f3 ?_
      intro acc' h4 n4 hn4 f4 l4 i4 o4
      simp only [fgr, bor, bZ, w1, gE]
      have i4' : ∀ j, aP acc' = some j → n0 ≤ j := fun j q => by
        rcases i4 with w | ⟨w, _⟩
        · rw [w] at q; exact hi j q
        · rw [w] at q; injection q with q; omega
      have accl : ∀ j, aP acc = some j → j < n1 := fun j q => ha1.dL f1 q
      have keep4 : ∀ j, j < n2 + 1 → aP acc ≠ some j → h4 j = H3 j := fun j hj hn => o4 j hj hn
      have hne : ∀ j, j < n2 + 1 → aP acc ≠ some j → aP acc' ≠ some j := fun j hj hn q => by
        rcases i4 with w | ⟨w, _⟩
        · rw [w] at q; exact hn q
        · rw [w] at q; injection q with q; omega
      have hV4 := hV1.mono (h' := h4) (D' := fun j => n0 ≤ j ∧ j < n4 ∧ aP acc' ≠ some j) (fun j q => ⟨q.1, by omega, hne j (by omega) q.2.2⟩) (fun j q => by rw [keep4 j (by omega) q.2.2, o13 j q.2.1])
      have an2 : ∀ j, n1 ≤ j → aP acc ≠ some j := fun j hj q => by have := accl j q; omega
      have hV5 := hV4.zH (b2.aM (h' := h4) fun j q => by rw [keep4 j (by have := i2 j q; omega) (an2 j (i2 j q).1), o3 j (by have := i2 j q; omega)]) at1.ok (fun j q => ⟨by have := i2 j q; omega, by have := i2 j q; omega, hne j (by have := i2 j q; omega) (an2 j (i2 j q).1)⟩)
      have hfl : (vs.take (i + 1)).filter is = (vs.take i).filter is ++ [vs[i]'(by omega)] := by rw [htk, List.filter_append]; simp [hq]
      have ho4 : Old h0 h4 n0 := fun j hj => by rw [keep4 j (by omega) (fun q => by have := hi j q; omega), o13 j (by omega)]; exact ho1 j hj
      exact ih (i + 1) h4 n4 acc' _ _ _ _ _ (by omega) (by rw [hfl, List.length_append]; exact l4) (by rw [hfl]; exact hV5) i4' (by omega) f4 ho4
def VL (h : Hp) (n0 n : Nat) (v : a9) (vs : List Ver) : Prop := ∃ cells, Lst h 31 70 v vs.length cells ∧ Vs h (fun j => n0 ≤ j ∧ j < n ∧ aP v ≠ some j) cells vs ∧ ∀ j, aP v = some j → n0 ≤ j ∧ j < n
theorem f74 (F : a9) (is : Ver → Bool) (v : a9) (cnt : Nat) (xs : List a9) (vs : List Ver) (D : Nat → Prop) (h : Hp) (n : Nat) (hF : IsF F is h n) (hc : cnt ≤ 1000000) (hv : Rds h 1 v cnt xs) (hvn : ∀ j, aP v = some j → j < n) (hp : Ps h D xs vs) (hD : ∀ j, D j → j < n) (hsl : ∀ v ∈ vs, v.aJ.length ≤ 1000000) (hf : aY h n) :
    Wp (bH env (aV env) 74 [v, F]) h n fun v' h' n' => VL h' n n' v' (vs.filter is) ∧ Old h h' n := by
  refine aU aL9 aA1 ?_
  simp only [YS, Try.f74, Option.getD_some, List.replicate, fgr, builtin, Nat.reduceAdd, Nat.reduceSub, hv.cA u95, gE]
  refine XM _ _ F is v cnt xs vs D h n hF hc hv hvn hp hD hsl ?_ cnt 0 h n .aN [] _ _ _ _ (by omega) (by rw [List.take_zero]; exact .nil) (by rw [List.take_zero]; exact Vs.nil _ _) (fun j q => by cases q) (Nat.le_refl _) hf (Old.refl _ _)
  intro h1 n1 acc cells x4 x7 x11 x16 hl hV hi hn hf1 ho
  simp only [fgr, gE]
  exact ⟨⟨cells, hl, hV, fun j q => ⟨hi j q, hl.dL hf1 q⟩⟩, ho⟩
theorem f83 (id t : Nat) (sv : a9) (v : Ver) (z : Int) (h : Hp) (n : Nat) (ha : AtN h n id sv v) (ht : Row h t [.int .i64 z]) (hf : aY h n) :
    Wp (bH env (aV env) 83 [.ptr id 0, .ptr t 0]) h n fun v' h' n' => v' = .bool (dW v z) ∧ Old h h' n := by
  refine aU aL0 az2 ?_
  simp only [YJ, Try.f83, Option.getD_some, List.replicate, fgr, Nat.reduceAdd, Nat.reduceSub, gE]
  refine bW ⟨rfl, ?_⟩
  simp only [Nat.reduceAdd, gE]
  rw [aW (dO ha.row ha.ok)]
  simp only [Nat.reduceAdd, gE]
  rw [aW (ht.one (off := 0) rfl ti3 rfl)]
  simp only [hkr, Nat.reduceAdd, gE]
  refine cU hf (f82 v sv ha.ok z h n hf) fun v5 h5 n5 r5 w5 hn5 f5 ⟨e1, o1⟩ => ?_
  subst e1
  simp only [fgr, Nat.reduceAdd, gE]
  refine ⟨(by (try simp (disch := first | assumption | omega) only [cJ, gF]); repeat' (first | rfl | exact (Bool.or_eq_true _ _).mpr (.inr rfl) | refine (Bool.and_eq_true _ _).mpr ⟨?_, ?_⟩)), ?_⟩
  exact o1
theorem KE (h0 : Hp) (n0 : Nat) : IsF (.fn (.func 75) [] []) (fun _ => true) h0 n0 := by
  intro h n id sv v hn ho ha hf
  simp only [hkr, eB, List.nil_append, List.append_nil]
  exact cP (f75 h n _) fun v' h' n' ⟨e1, e2, e3⟩ => ⟨e1, by subst e2; exact Old.refl _ _⟩
theorem TU (t : Nat) (z : Int) (h0 : Hp) (n0 : Nat) (ht : Row h0 t [.int .i64 z]) (htn : t < n0) : IsF (.fn (.func 83) [] [.ptr t 0]) (fun v => dW v z) h0 n0 := by
  intro h n id sv v hn ho ha hf
  simp only [hkr, eB, List.cons_append, List.nil_append]
  exact f83 id t sv v z h n ha (ht.aM (ho t htn)) hf
theorem f32 (x : Nat) (L : List Ver) (D M : Nat → Prop) (h : Hp) (n : Nat) (hs : Ix h n D M x L) (hc : L.length ≤ 1000000) (hf : aY h n) :
    Wp (bH env (aV env) 32 [.ptr x 0]) h n fun v' h' n' => VL h' n n' v' L ∧ Old h h' n := by
  obtain ⟨⟨S, s0, rS, perm⟩, rL, ok⟩ := hs
  obtain ⟨vl, vs, xl, xs, iv, mx, ml, ms, mn⟩ := s0
  refine aU aO5 aC7 ?_
  simp only [ZH, Try.f32, Option.getD_some, List.replicate, fgr, hkr, Nat.reduceSub, gE]
  refine dA (f73 x _ true h n iv.row rfl) ?_
  simp only [tyr, fgr, aR, gE]
  rw [aE (iv.row.one (off := 1) rfl pI rfl)]
  simp only [hkr, gE]
  refine aQ hf (f74 _ _ vl L.length xl L D h n (KE h n) hc iv.l.rds (fun j q => (mn j (ml j q)).1) iv.lp iv.dn (fun v hv => (ok v hv).2) hf) fun v1 h1 n1 hn1 f1 ⟨l1, o1⟩ => ?_
  simp only [fgr, gE]
  rw [show L.filter (fun _ => true) = L from List.filter_eq_self.2 fun _ _ => rfl] at l1
  exact ⟨l1, o1⟩
theorem f39 (x : Nat) (z : Int) (L : List Ver) (D M : Nat → Prop) (h : Hp) (n : Nat) (hs : Ix h n D M x L) (hc : L.length ≤ 1000000) (hf : aY h n) :
    Wp (bH env (aV env) 39 [.ptr x 0, .int .i64 z]) h n fun v' h' n' => VL h' n n' v' (L.filter fun v => dW v z) ∧ Old h h' n := by
  obtain ⟨⟨S, s0, rS, perm⟩, rL, ok⟩ := hs
  obtain ⟨vl, vs, xl, xs, iv, mx, ml, ms, mn⟩ := s0
  refine aU aN8 aC0 ?_
  simp only [ZB, Try.f39, Option.getD_some, List.replicate, Nat.reduceAdd, Nat.reduceSub, gE]
  refine cG (v := .int .i64 z) ti3 rfl hf fun H1 r1 o1 f1 => ?_
  have old1 : Old h H1 n := fun j hj => o1 j (by omega)
  simp only [fgr, hkr, gE]
  have row1 := iv.row.aM (old1 x iv.xn)
  refine dA (f73 x _ true H1 (n + 1) row1 rfl) ?_
  simp only [tyr, fgr, aR, gE]
  rw [aE (row1.one (off := 1) rfl pI rfl)]
  simp only [hkr, gE]
  refine aQ f1 (f74 _ _ vl L.length xl L D H1 (n + 1) (TU n z H1 (n + 1) r1 (by omega)) hc (iv.l.aM (fun j q => old1 j (mn j (ml j q)).1)).rds (fun j q => by have := (mn j (ml j q)).1; omega) (iv.lp.mono (fun j q => q) (fun j q => old1 j (iv.dn j q))) (fun j q => by have := iv.dn j q; omega) (fun v hv => (ok v hv).2) f1) fun v2 h2 n2 hn2 f2 ⟨l2, o2⟩ => ?_
  simp only [fgr, gE]
  obtain ⟨cells, a1, a2, a3⟩ := l2
  exact ⟨⟨cells, a1, a2.mono (fun j q => ⟨by have := q.1; omega, q.2⟩) (fun j q => rfl), fun j q => by have := a3 j q; omega⟩, fun j hj => by rw [o2 j (by omega), old1 j hj]⟩
def yes (b : Bool) (v : a9) : Prop := v = .fU b ∨ v = .bool b
theorem TJ (Q : dI) (ks : List Kf) (Y : a9) (v : a9) (cnt p : Nat) (xs : List a9) (vs : List Ver) (D : Nat → Prop) (P : Nat → Hp → Nat → Prop) (R : Hp → Nat → Prop) (y1 y2 : a9) (hc : cnt ≤ 1000000) (hpc : p ≤ cnt)
    (hP : ∀ k h n, P k h n → Rds h 1 v cnt xs ∧ Ps h D xs vs ∧ aY h n)
    (hY : ∀ (k : Nat) (hk : k < vs.length) (id : Nat) (sv : a9) (h : Hp) (n : Nat), p ≤ k → P k h n → xs[k]? = some (.ptr id 0) → At h id sv vs[k] → D id → (∀ j, aP sv = some j → D j) → Wp (jQ env (aV env) Y [.ptr id 0]) h n fun v' h' n' => (yes true v' ∧ P (k + 1) h' n') ∨ (yes false v' ∧ R h' n'))
    (hE : ∀ (h : Hp) (n : Nat) (tm : List a9), P cnt h n → cV env 109 none Q ks (.exit 0) tm h n)
    (hR : ∀ (h : Hp) (n : Nat) (tm : List a9), R h n → cV env 109 none Q ks .ret tm h n) :
    ∀ (m i : Nat) (h : Hp) (n : Nat) (x4 x7 x22 x28 : a9), p + i + m = cnt → P (p + i) h n → Run env 109 none Q (.loop C8) ks (Y :: y1 :: y2 :: a9.aA :: x4 :: a9.aA :: a9.aA :: x7 :: a9.aA :: a9.aA :: a9.aA :: a9.aA :: a9.aA :: a9.aA :: a9.aA :: a9.aA :: a9.aA :: a9.aA :: a9.aA :: kW p cnt v :: .int .i64 (cnt - p : Nat) :: .int .i64 (i : Nat) :: x22 :: a9.aA :: a9.aA :: a9.aA :: a9.aA :: a9.aA :: x28 :: a9.aA :: []) h n := by
  intro m
  induction m with
  | zero =>
    intro i h n x4 x7 x22 x28 hm hp
    rw [bO]
    have hcc : ¬ (((i : Nat) : Int) < ((cnt - p : Nat) : Int)) := by omega
    simp only [C8, bC, Try.f109, Option.getD_some, fgr, bor, List.getD_cons_zero, hcc, gE]
    exact hE h n _ (by rw [show cnt = p + i by omega]; exact hp)
  | succ m ih =>
    intro i h n x4 x7 x22 x28 hm hp
    rw [bO]
    obtain ⟨hv, hps, hf⟩ := hP _ _ _ hp
    have hcl : cnt = vs.length := by have := hv.length; have := hps.len; omega
    have hil : i < cnt - p := by omega
    have hcc : (((i : Nat) : Int) < ((cnt - p : Nat) : Int)) := by omega
    have hsub := hv.sub (lo := p) (hi := cnt) hpc (Nat.le_refl _)
    obtain ⟨id, sv, hx, a, d1, d2⟩ := hps.get (j := p + i) (by omega)
    have hidx := hsub.idx (E := env) u95 rU (kk := .i64) (z := ((i : Nat) : Int)) (j := i) rfl hil (h' := h) (n' := n)
    have hld := hsub.load (E := env) iT rfl (k := i * 1) (n := n) (x := .ptr id 0) (by
      rw [Nat.mul_one, Nat.mul_one, Nat.mul_one, List.getElem?_take, if_pos hil, List.getElem?_drop]; exact hx)
    have w1 : IntKind.i64.wrap (((i : Nat) : Int) + 1) = ((i + 1 : Nat) : Int) := by rw [w64 (by omega) (by omega)]; omega
    simp only [C8, bC, Try.f109, Option.getD_some, fgr, bor, List.getD_cons_zero, hcc, gE]
    rw [aE hidx]
    simp only [gE]
    rw [aE hld]
    simp only [fgr, gE]
    refine aQ hf (hY (p + i) (by omega) id sv h n (by omega) hp hx a d1 d2) fun v1 h1 n1 hn1 f1 hh => ?_
    rcases hh with ⟨e1 | e1, hp1⟩ | ⟨e1 | e1, hr1⟩
    · subst e1
      simp only [fgr, bor, bZ, unOp, w1, gE]
      exact ih (i + 1) h1 n1 _ _ _ _ (by omega) hp1
    · subst e1
      simp only [fgr, bor, bZ, unOp, w1, gE]
      exact ih (i + 1) h1 n1 _ _ _ _ (by omega) hp1
    · subst e1
      simp only [fgr, unOp, gE]
      exact hR h1 n1 _ hr1
    · subst e1
      simp only [fgr, unOp, gE]
      exact hR h1 n1 _ hr1
theorem f109 (o : Bool) (Y : a9) (b1 b2 x off : Nat) (cs : List a9) (v : a9) (t : Nat) (st : a9) (tv : Ver) (cnt : Nat) (xs : List a9) (vs : List Ver) (D : Nat → Prop) (P : Nat → Hp → Nat → Prop) (R : Hp → Nat → Prop) (h : Hp) (n : Nat)
    (hb1 : Row h b1 [.ptr x off]) (hb2 : Row h b2 [.ptr t 0]) (hr : Row h x cs) (hc0 : cs[off]? = some v) (hc1 : cs[off + 1]? = some (fo o)) (hc : cnt ≤ 1000000) (hv : Rds h 1 v cnt xs) (hro : wG v) (hvn : ∀ j, aP v = some j → j < n) (hp : Ps h D xs vs) (hD : ∀ j, D j → j < n) (ht : AtN h n t st tv) (hmono : LK o vs tv) (hf : aY h n)
    (hn1 : b1 < n) (hxn : x < n)
    (hP : ∀ k h n, P k h n → Rds h 1 v cnt xs ∧ Ps h D xs vs ∧ aY h n)
    (hS : ∀ p h' n', Pos o vs tv p → n ≤ n' → aY h' n' → Old h h' n → P p h' n')
    (hY : ∀ (p k : Nat) (hk : k < vs.length) (id : Nat) (sv : a9) (h : Hp) (n : Nat), Pos o vs tv p → p ≤ k → P k h n → xs[k]? = some (.ptr id 0) → At h id sv vs[k] → D id → (∀ j, aP sv = some j → D j) → Wp (jQ env (aV env) Y [.ptr id 0]) h n fun v' h' n' => (yes true v' ∧ P (k + 1) h' n') ∨ (yes false v' ∧ R h' n')) :
    Wp (bH env (aV env) 109 [Y, .ptr b1 0, .ptr b2 0]) h n fun v' h' n' => v' = .tup [] ∧ (P cnt h' n' ∨ R h' n') := by
  have hcl : cnt = vs.length := by have := hv.length; have := hp.len; omega
  refine aU aq6 am2 ?_
  simp only [PS, Try.f109, Option.getD_some, List.replicate, Nat.reduceAdd, Nat.reduceSub, gE]
  rw [aE (hb1.one (off := 0) rfl MR rfl)]
  simp only [gE]
  rw [aE (hb2.one (off := 0) rfl iT rfl)]
  simp only [hkr, gE]
  refine aQ hf (f103 o x off cs v t st tv cnt xs vs D h n hr hc0 hc1 (by omega) hv hvn hp hD ht hmono hf) fun v1 h1 n1 hn1' f1 ⟨p, hpos, e1, o1⟩ => ?_
  subst e1
  have hpc : p ≤ cnt := by have := hpos.le; omega
  have hv1 := hv.aM (h' := h1) (fun j q => o1 j (hvn j q))
  simp only [fgr, gE]
  rw [aE ((hb1.aM (o1 b1 hn1)).one (off := 0) rfl MR rfl)]
  simp only [tyr, aR, gE]
  rw [aE ((hr.aM (o1 x hxn)).one hc0 pI rfl)]
  simp only [opt, gE]
  rw [aE (hv1.I3 u95 rU rfl hpc)]
  have hsub := hv1.sub (lo := p) (hi := cnt) hpc (Nat.le_refl _)
  simp only [fgr, builtin, hsub.cA u95, gE]
  refine TJ _ _ Y v cnt p xs vs D P R _ _ hc hpc hP (fun k hk id sv h n => hY p k hk id sv h n hpos) ?_ ?_ (cnt - p) 0 h1 n1 _ _ _ _ (by omega) (hS p h1 n1 hpos (by omega) f1 o1)
  · intro h2 n2 tm hp2
    simp only [bI, true_and]
    exact .inl hp2
  · intro h2 n2 tm hr2
    simp only [bI, true_and]
    exact .inr hr2
theorem f88 (x off t : Nat) (h : Hp) (n : Nat) : Wp (bH env (aV env) 88 [.ptr x off, .ptr t 0]) h n fun v' h' n' => v' = .fn (.func 109) [] [.ptr n 0, .ptr (n + 1) 0] ∧ h' = upd (upd h n (some (.row (.l [.ptr x off]) 156))) (n + 1) (some (.row (.l [.ptr t 0]) 128)) ∧ n' = n + 1 + 1 := by
  refine aU aK5 ay7 ?_
  simp only [YE, Try.f88, Option.getD_some, List.replicate, tyr, fgr, cel, alloc, newRow, Nat.reduceAdd, Nat.reduceSub, gE]
theorem f81 (x : Nat) (aI : List UInt8) (pn : Int) (h : Hp) (n : Nat) : Wp (bH env (aV env) 81 [.ptr x 0, .agg (aS aI pn)]) h n fun v' h' n' => v' = .fn (.func 106) [] [.ptr n 0, .ptr (n + 1) 0] ∧ h' = upd (upd h n (some (.row (.l [.ptr x 0]) 56))) (n + 1) (some (.row (.l (aS aI pn)) 28)) ∧ n' = n + 1 + 1 := by
  refine aU aL2 az4 ?_
  simp only [YL, Try.f81, Option.getD_some, List.replicate, tyr, fgr, cel, alloc, newRow, Nat.reduceAdd, Nat.reduceSub, gE]
theorem nY {α : Type} {f : α → M Bool} {g : α → Bool} : ∀ (l : List α), (∀ x ∈ l, f x = M.pure (g x)) → wQ f l = M.pure (l.all g)
  | [], _ => rfl
  | x :: l, h => by
    simp only [wQ, h x (List.mem_cons_self), aB, nY l fun y hy => h y (List.mem_cons_of_mem _ hy), List.all_cons]
theorem xO {a : List UInt8} {i : Nat} (hi : i < a.length) : part env 5 (a.map u8) i = M.pure (u8 a[i]) := by
  simp only [part, ti5, aB, jG, List.getElem?_map, List.getElem?_eq_getElem hi, Option.map_some, fV]
theorem eq5 (d : Nat) (x y : UInt8) : equal env (d + 1) 5 (u8 x) (u8 y) = M.pure (x == y) := by
  have : ((x.toNat : Int) == (y.toNat : Int)) = (x == y) := by
    by_cases e : x = y
    · subst e; simp
    · have h2 : ¬ ((x.toNat : Int) = (y.toNat : Int)) := fun q => e (UInt8.toNat_inj.1 (by omega))
      rw [beq_eq_false_iff_ne.2 h2, beq_eq_false_iff_ne.2 e]
  simp only [equal, u8, und, ti5, aB, decide_true]
  rw [this]
theorem QB (d : Nat) (a b : List UInt8) (ha : a.length = 32) (hb : b.length = 32) : equal env (d + 1 + 1) 25 (.agg (a.map u8)) (.agg (b.map u8)) = M.pure (decide (a = b)) := by
  have hq : zR env env.eqs 25 = true := rfl
  have h1 : equal env (d + 1 + 1) 25 (.agg (a.map u8)) (.agg (b.map u8)) = wQ (fun i => (part env 5 (a.map u8) (i * 1)).bind fun x => (part env 5 (b.map u8) (i * 1)).bind fun y => equal env (d + 1) 5 x y) (List.range 32) := by
    rw [equal]
    · simp only [und, nC, aB, hq, gK, sizeOf, ti5]
    all_goals (intro k n h; cases h)
  rw [h1, nY (g := fun i => (a.getD i 0 == b.getD i 0)) _ fun i hi => ?_]
  · congr 1
    rw [Bool.eq_iff_iff, List.all_eq_true, decide_eq_true_iff]
    constructor
    · intro h
      apply List.ext_getElem (by omega)
      intro i h1 h2
      have := h i (List.mem_range.2 (by omega))
      rw [List.getD_eq_getElem?_getD, List.getD_eq_getElem?_getD, List.getElem?_eq_getElem h1, List.getElem?_eq_getElem h2] at this
      simpa using this
    · rintro rfl i _
      simp
  · have hi := List.mem_range.1 hi
    rw [Nat.mul_one, xO (by omega), aB, xO (by omega), aB, eq5]
    rw [List.getD_eq_getElem?_getD, List.getD_eq_getElem?_getD, List.getElem?_eq_getElem (by omega), List.getElem?_eq_getElem (by omega)]
    rfl
theorem QA (d : Nat) (h1 h2 : List UInt8) (n1 n2 : Int) (l1 : h1.length = 32) (l2 : h2.length = 32) : equal env (d + 1 + 1 + 1) 28 (.agg (aS h1 n1)) (.agg (aS h2 n2)) = M.pure (decide (h1 = h2) && (n1 == n2)) := by
  have hq : zR env env.eqs 28 = true := rfl
  have p0 : ∀ (hh : List UInt8) (nn : Int), hh.length = 32 → part env 25 (aS hh nn) 0 = M.pure (.agg (hh.map u8)) := fun hh nn hl => by
    simp only [part, nC, aB, jG, List.drop_zero]
    rw [show (aS hh nn).take 32 = hh.map u8 by unfold aS; rw [List.take_append_of_le_length (by simp [hl]), List.take_of_length_le (by simp [hl])]]
  have p1 : ∀ (hh : List UInt8) (nn : Int), hh.length = 32 → part env 26 (aS hh nn) 32 = M.pure (.int .u32 nn) := fun hh nn hl => by
    simp only [part, pK, aB, jG, gY hl, fV]
  have p2 : equal env (d + 1 + 1) 26 (.int .u32 n1) (.int .u32 n2) = M.pure (n1 == n2) := by
    simp only [equal, und, pK, aB, decide_true]
  rw [equal]
  · simp only [und, gG, aB, hq, gK]
    simp only [wQ, show decide ("Tx" = "_") = false from rfl, show decide ("N" = "_") = false from rfl, p0 h1 n1 l1, p0 h2 n2 l2, p1 h1 n1 l1, p1 h2 n2 l2, aB, QB d h1 h2 l1 l2, p2, Bool.and_true]
  all_goals (intro k n h; cases h)
theorem aj1 (h1 h2 : List UInt8) (n1 n2 : Int) (l1 : h1.length = 32) (l2 : h2.length = 32) : binOp env .neq 28 (.agg (aS h1 n1)) (.agg (aS h2 n2)) = M.pure (.bool (!(decide (h1 = h2) && (n1 == n2)))) := by
  have e := QA 97 h1 h2 n1 n2 l1 l2
  show bL env .neq 28 (.agg (aS h1 n1)) (.agg (aS h2 n2)) = _
  unfold bL
  simp only
  unfold bS
  rw [e, aB]
noncomputable def CY (tm : List a9) : kS := { state := .ready, pending := none, fn := 106, tmps := tm, params := [14], assign := I9, body := I8 }
def same (aI : List UInt8) (pn : Int) (v : Ver) : Bool := decide (v.aI = aI) && (v.pn == pn)
def aS6 (aI : List UInt8) (pn : Int) (L : List Ver) (P : Nat → Nat → Hp → Nat → Prop) (R : Nat → Hp → Nat → Prop) (n0 : Nat) (h : Hp) (n : Nat) : Prop :=
  ∃ nS, n0 ≤ nS ∧ ((∃ k, pos false L (key aI pn 0) ≤ k ∧ P nS k h n ∧ ∀ hk : k < L.length, same aI pn L[k] = false) ∨ R nS h n)
set_option maxHeartbeats 4000000 in
theorem f106 (Y : a9) (c1 c2 x : Nat) (aI : List UInt8) (pn : Int) (hl : aI.length = 32) (L S : List Ver) (D : Nat → Prop) (P : Nat → Nat → Hp → Nat → Prop) (R : Nat → Hp → Nat → Prop) (vl vs : a9) (xl xs : List a9) (h : Hp) (n : Nat)
    (iv : IxV h n D x vl vs xl xs L S) (mn : ∀ j, aP vl = some j → j < n) (rL : cQ false L) (hc : L.length ≤ 1000000)
    (hY1 : Y.cells = [Y] ∧ bB Y = true ∧ dD Y = false) (hc1 : Row h c1 [.ptr x 0]) (hc2 : Row h c2 (aS aI pn)) (hn1 : c1 < n) (hn2 : c2 < n) (hf : aY h n)
    (hP : ∀ nS k h n, P nS k h n → Rds h 1 vl L.length xl ∧ Ps h D xl L ∧ aY h n)
    (hS : ∀ h' nS, n ≤ nS → aY h' nS → Old h h' n → P nS (pos false L (key aI pn 0)) h' nS)
    (hst : ∀ nS k h1 n1 i b, n ≤ i → i < nS → P nS k h1 n1 → P nS k (upd h1 i b) n1)
    (hsr : ∀ nS h1 n1 i b, n ≤ i → i < nS → R nS h1 n1 → R nS (upd h1 i b) n1)
    (hY : ∀ (nS k : Nat) (hk : k < L.length) (id : Nat) (sv : a9) (h1 : Hp) (n1 : Nat), n ≤ nS → pos false L (key aI pn 0) ≤ k → P nS k h1 n1 → At h1 id sv L[k] → D id → (∀ j, aP sv = some j → D j) → same aI pn L[k] = true →
      Wp (jQ env (aV env) Y [.ptr id 0]) h1 n1 fun v' h' n' => ((yes true v' ∧ P nS (k + 1) h' n') ∨ (yes false v' ∧ R nS h' n')) ∧ (∀ j, n ≤ j → j < nS → h' j = h1 j) ∧ h' c2 = h1 c2) :
    Wp (bH env (aV env) 106 [Y, .ptr c1 0, .ptr c2 0]) h n fun v' h' n' => v' = .tup [] ∧ aS6 aI pn L P R n h' n' := by
  refine aU aq9 am5 ?_
  simp only [PV, Try.f106, Option.getD_some, List.replicate, Nat.reduceAdd, Nat.reduceSub, gE]
  refine cG (v := Y) MT hY1.2.2 hf fun H1 r1 o1 f1 => ?_
  rw [hY1.1] at r1
  have old1 : Old h H1 n := fun j hj => o1 j (by omega)
  simp only [fgr, gE]
  rw [aE ((hc1.aM (old1 c1 hn1)).one (off := 0) rfl pD rfl)]
  simp only [hkr, gE]
  refine dA (f73 x _ true H1 (n + 1) (iv.row.aM (old1 x iv.xn)) rfl) ?_
  simp only [bI, fgr, opd, bP, put, nth, aF, Bool.not_true]
  refine bW ⟨rfl, ?_⟩
  simp only [gE]
  rw [aW ((hc1.aM (old1 c1 hn1)).one (off := 0) rfl pD rfl)]
  simp only [tyr, aR, Nat.reduceAdd, gE]
  have hld : Rd (load env 28 (.ptr c2 0)) H1 (n + 1) [c2] (.agg (aS aI pn)) := Row.eF (hc2.aM (old1 c2 hn2)) gG rfl (bM hl)
  rw [aW hld]
  have b31 : build env 31 [(0, .agg (aS aI pn))] = M.pure (.agg (aK (key aI pn 0) .aN)) := by
    have h1 : (a9.agg (aS aI pn)).cells.length = 33 := bM hl
    have e1 : ∀ pl : Nat → Option (Nat × Nat), pl 0 = some (0, 33) → fill pl eK.i.zero.cells [(0, .agg (aS aI pn))] = some (aK (key aI pn 0) .aN) := fun pl p0 => by
      rw [z31, gW p0 rfl rfl h1 rfl, List.nil_append]
      simp only [fill]
      congr 1
    have e2 : build env 31 [(0, .agg (aS aI pn))] = (fV "build" (fill ([(0, 33), (33, 1), (34, 1), (35, 1), (36, 1), (37, 1), (38, 32)][·]?) eK.i.zero.cells [(0, .agg (aS aI pn))])).bind fun cs => M.pure (.agg cs) := rfl
    rw [e2, e1 _ rfl]
    rfl
  simp only [cel, alloc, Nat.reduceAdd, b31, gE]
  refine jO (xs := aK (key aI pn 0) .aN) cY f1 fun H2 r2 o2 f2 => ?_
  have old2 : Old h H2 n := fun j hj => by rw [o2 j (by omega), old1 j hj]
  simp only [hkr, Nat.reduceAdd, gE]
  refine cU f2 (f88 x 1 (n + 1) H2 (n + 1 + 1)) fun v3 h3 n3 r3 w3 hn3 f3 ⟨e3, eh3, en3⟩ => ?_
  subst e3; subst en3
  simp only [mV, bI, fgr, bP, put, aF, Nat.reduceAdd]
  refine ⟨(by (try simp (disch := first | assumption | omega) only [cJ, gF]); repeat' (first | rfl | exact (Bool.or_eq_true _ _).mpr (.inr rfl) | refine (Bool.and_eq_true _ _).mpr ⟨?_, ?_⟩)), ?_⟩
  have g0 : Row h3 n [Y] := by rw [eh3]; exact ((r1.aM (o2 n (by omega))).upd (by omega)).upd (by omega)
  have g1 : h3 (n + 1) = some (.row (.l (aK (key aI pn 0) .aN)) 31) := by rw [eh3, aH _ _ (by omega), aH _ _ (by omega)]; exact r2
  have g2 : Row h3 (n + 1 + 1) [.ptr x 1] := by rw [eh3]; exact (Row.new _ _ _ _).upd (by omega)
  have g3 : Row h3 (n + 1 + 1 + 1) [.ptr (n + 1) 0] := by rw [eh3]; exact Row.new _ _ _ _
  have old3 : Old h h3 n := fun j hj => by rw [eh3, aH _ _ (by omega), aH _ _ (by omega), old2 j hj]
  clear eh3
  refine lD (g := 109) (first := []) (cap := [.ptr (n + 1 + 1) 0, .ptr (n + 1 + 1 + 1) 0]) rfl rfl ?_
  let TM : List a9 := (Y :: .ptr c1 0 :: .ptr c2 0 :: .ptr n 0 :: undef :: a9.aA :: .bool false :: a9.aA :: a9.aA :: a9.aA :: a9.aA :: a9.aA :: a9.aA :: .fn (.func 109) [] [.ptr (n + 1 + 1) 0, .ptr (n + 1 + 1 + 1) 0] :: undef :: a9.aA :: a9.aA :: a9.aA :: a9.aA :: a9.aA :: a9.aA :: a9.aA :: a9.aA :: a9.aA :: a9.aA :: a9.aA :: undef :: [])
  obtain ⟨H4, hH4⟩ : ∃ H4, H4 = upd h3 (n + 1 + 1 + 1 + 1) (some (Blk.loop (CY TM))) := ⟨_, rfl⟩
  have f4 : aY H4 (n + 1 + 1 + 1 + 1 + 1) := by rw [hH4]; exact f3.new
  have o4 : ∀ j, j ≠ n + 1 + 1 + 1 + 1 → H4 j = h3 j := fun j hj => by rw [hH4, aH _ _ hj]
  have r4 : H4 (n + 1 + 1 + 1 + 1) = some (Blk.loop (CY TM)) := by rw [hH4, aO]
  have old4 : Old h H4 n := fun j hj => by rw [o4 j (by omega), old3 j hj]
  show Wp (fX env (aV env) 109 [a9.fn (Fn.yield (n + 1 + 1 + 1 + 1)) [] [], a9.ptr (n + 1 + 1) 0, a9.ptr (n + 1 + 1 + 1) 0]) (upd h3 (n + 1 + 1 + 1 + 1) (some (Blk.loop (CY TM)))) (n + 1 + 1 + 1 + 1 + 1) _
  rw [V3, ← hH4]
  clear hH4
  have hl0 := iv.l.aM (h' := H4) (fun j q => old4 j (mn j q))
  have hp0 := iv.lp.mono (D' := D) (fun j q => q) (fun j q => old4 j (iv.dn j q))
  have kt : AtN H4 (n + 1 + 1 + 1 + 1 + 1) (n + 1) .aN (key aI pn 0) := ⟨⟨⟨_, (o4 (n + 1) (by omega)).trans g1⟩, .aN, P9 hl⟩, by omega, fun j q => by cases q⟩
  have hro : wG vl := by
    have q := iv.l
    generalize L.length = len at q
    cases q with
    | nil => trivial
    | zero => exact Nat.le_refl _
    | sl => trivial
  refine cP (f109 false (.fn (.yield (n + 1 + 1 + 1 + 1)) [] []) (n + 1 + 1) (n + 1 + 1 + 1) x 1 _ vl (n + 1) .aN (key aI pn 0) L.length xl L D
    (fun k h1 n1 => ∃ nS, n + 1 + 1 + 1 + 1 < nS ∧ P nS k h1 n1 ∧ h1 (n + 1 + 1 + 1 + 1) = some (.loop (CY TM)) ∧ Row h1 n [Y] ∧ Row h1 c2 (aS aI pn))
    (fun h1 n1 => ∃ l nS, h1 (n + 1 + 1 + 1 + 1) = some (.loop l) ∧ l.state = .done ∧ l.pending = some .ret ∧ n + 1 + 1 + 1 + 1 < nS ∧ ((∃ k, pos false L (key aI pn 0) ≤ k ∧ P nS k h1 n1 ∧ ∀ hk : k < L.length, same aI pn L[k] = false) ∨ R nS h1 n1))
    H4 (n + 1 + 1 + 1 + 1 + 1) (g2.aM (o4 _ (by omega))) (g3.aM (o4 _ (by omega))) (iv.row.aM (old4 x iv.xn)) rfl rfl hc hl0.rds hro (fun j q => by have := mn j q; omega) hp0 (fun j q => by have := iv.dn j q; omega) kt (rL.mono _) f4 (by omega) (by have := iv.xn; omega) ?_ ?_ ?_) ?_
  · rintro k h1 n1 ⟨nS, _, hp, _⟩
    exact hP nS k h1 n1 hp
  · intro p h' n' hpos hn' hf' ho'
    have oo : Old h h' n := fun j hj => by rw [ho' j (by omega), old4 j hj]
    refine ⟨n', by omega, by rw [hpos.eq]; exact hS h' n' (by omega) hf' oo, (ho' _ (by omega)).trans r4, (g0.aM (o4 n (by omega))).aM (ho' n (by omega)), hc2.aM (oo c2 hn2)⟩
  · rintro p k hk id sv h1 n1 hpos hpk ⟨nS, hnS, hp, hlo, hrY, hrc⟩ hx a d1 d2
    obtain ⟨_, hps, hf1'⟩ := hP nS k h1 n1 hp
    refine nA hlo rfl rfl ?_
    simp only [I9, List.getD_cons_zero, lT, List.zip_cons_cons, List.zip_nil_left, CY, TM, cE, Try.f106, Option.getD_some, fgr, gE]
    refine ⟨_, hlo, rfl, ?_⟩
    have hidn : id < n := iv.dn id d1
    have hpk' : pos false L (key aI pn 0) ≤ k := by rw [← hpos.eq]; exact hpk
    obtain ⟨h2, hh2⟩ : ∃ h2, h2 = upd h1 (n + 1 + 1 + 1 + 1) (some (Blk.loop { CY TM with state := .busy })) := ⟨_, rfl⟩
    have ho2 : ∀ j, j ≠ n + 1 + 1 + 1 + 1 → h2 j = h1 j := fun j hj => by rw [hh2, aH _ _ hj]
    have hlo2 : h2 (n + 1 + 1 + 1 + 1) = some (.loop { CY TM with state := .busy }) := by rw [hh2, aO]
    have hp2 : P nS k h2 n1 := by rw [hh2]; exact hst nS k h1 n1 _ _ (by omega) hnS hp
    have a2 : At h2 id sv L[k] := a.aM (ho2 id (by omega)) (fun j q => ho2 j (by have := iv.dn j (d2 j q); omega))
    have hrY2 := hrY.aM (ho2 n (by omega))
    have hrc2 := hrc.aM (ho2 c2 (by omega))
    show Run env 106 _ _ _ _ _ (upd h1 (n + 1 + 1 + 1 + 1) (some (Blk.loop { CY TM with state := .busy }))) n1
    rw [← hh2]
    clear hh2
    obtain ⟨_, _, hf2⟩ := hP nS k h2 n1 hp2
    simp only [I8, List.getD_cons_zero, cE, Try.f106, Option.getD_some, bI, fgr, List.nil_append, List.append_nil]
    refine bW ⟨rfl, ?_⟩
    simp only [tyr, aR, Nat.reduceAdd, gE]
    rw [aW (iL a2.row a2.ok)]
    simp only [Nat.reduceAdd, gE]
    have hld2 : Rd (load env 28 (.ptr c2 0)) h2 n1 [c2] (.agg (aS aI pn)) := Row.eF hrc2 gG rfl (bM hl)
    rw [aW hld2]
    have hne := aj1 L[k].aI aI L[k].pn pn a2.ok.h hl
    cases hsm : same aI pn L[k] with
    | false =>
      have e1 : (decide (L[k].aI = aI) && (L[k].pn == pn)) = false := hsm
      rw [e1] at hne
      simp only [fgr, bE, Nat.reduceAdd, hne, gE]
      exact ⟨(by (try simp (disch := first | assumption | omega) only [cJ, gF]); repeat' (first | rfl | exact (Bool.or_eq_true _ _).mpr (.inr rfl) | refine (Bool.and_eq_true _ _).mpr ⟨?_, ?_⟩)), _, hlo2, .inr ⟨.inl rfl, _, nS, aO _ _ _, rfl, rfl, hnS, .inl ⟨k, hpk', hst nS _ _ _ _ _ (by omega) hnS hp2, fun _ => hsm⟩⟩⟩
    | true =>
      have e1 : (decide (L[k].aI = aI) && (L[k].pn == pn)) = true := hsm
      rw [e1] at hne
      simp only [Nat.reduceAdd, hne, gE]
      rw [aW (hrY2.one (off := 0) rfl MT rfl)]
      simp only [Nat.reduceAdd, gE]
      refine cU hf2 (hY nS k hk id sv h2 n1 (by omega) hpk' hp2 a2 d1 d2 hsm) fun v6 h6 n6 r6 w6 hn6 f6 ⟨hres, hkeep, hkc⟩ => ?_
      have hlo6 : h6 (n + 1 + 1 + 1 + 1) = some (.loop { CY TM with state := .busy }) := (hkeep _ (by omega) hnS).trans hlo2
      rcases hres with ⟨e6 | e6, hp6⟩ | ⟨e6 | e6, hr6⟩
      · subst e6
        simp only [fgr, unOp, bE, Nat.reduceAdd, gE]
        exact ⟨(by (try simp (disch := first | assumption | omega) only [cJ, gF]); repeat' (first | rfl | exact (Bool.or_eq_true _ _).mpr (.inr rfl) | refine (Bool.and_eq_true _ _).mpr ⟨?_, ?_⟩)), _, hlo6, .inl ⟨.inl rfl, nS, hnS, hst nS _ _ _ _ _ (by omega) hnS hp6, aO _ _ _, (hrY2.aM (hkeep n (Nat.le_refl _) (by omega))).upd (by omega), (hrc2.aM hkc).upd (by omega)⟩⟩
      · subst e6
        simp only [fgr, unOp, bE, Nat.reduceAdd, gE]
        exact ⟨(by (try simp (disch := first | assumption | omega) only [cJ, gF]); repeat' (first | rfl | exact (Bool.or_eq_true _ _).mpr (.inr rfl) | refine (Bool.and_eq_true _ _).mpr ⟨?_, ?_⟩)), _, hlo6, .inl ⟨.inl rfl, nS, hnS, hst nS _ _ _ _ _ (by omega) hnS hp6, aO _ _ _, (hrY2.aM (hkeep n (Nat.le_refl _) (by omega))).upd (by omega), (hrc2.aM hkc).upd (by omega)⟩⟩
      · subst e6
        simp only [fgr, unOp, bE, Nat.reduceAdd, gE]
        exact ⟨(by (try simp (disch := first | assumption | omega) only [cJ, gF]); repeat' (first | rfl | exact (Bool.or_eq_true _ _).mpr (.inr rfl) | refine (Bool.and_eq_true _ _).mpr ⟨?_, ?_⟩)), _, hlo6, .inr ⟨.inl rfl, _, nS, aO _ _ _, rfl, rfl, hnS, .inr (hsr nS _ _ _ _ (by omega) hnS hr6)⟩⟩
      · subst e6
        simp only [fgr, unOp, bE, Nat.reduceAdd, gE]
        exact ⟨(by (try simp (disch := first | assumption | omega) only [cJ, gF]); repeat' (first | rfl | exact (Bool.or_eq_true _ _).mpr (.inr rfl) | refine (Bool.and_eq_true _ _).mpr ⟨?_, ?_⟩)), _, hlo6, .inr ⟨.inl rfl, _, nS, aO _ _ _, rfl, rfl, hnS, .inr (hsr nS _ _ _ _ (by omega) hnS hr6)⟩⟩
  · rintro v5 h5 n5 ⟨e5, hh⟩
    rcases hh with ⟨nS, hnS, hp, hlo, hrY, hrc⟩ | ⟨l, nS, hlo, hst1, hpe, hnS, hh⟩
    · refine ⟨_, hlo, (fun q => by cases q), .normal, rfl, ?_⟩
      simp only [bI, true_and]
      refine ⟨nS, by omega, .inl ⟨L.length, Nat.le_trans (List.countP_le_length) (Nat.le_refl _), hst nS _ _ _ _ _ (by omega) (by omega) hp, fun hk => absurd hk (Nat.lt_irrefl _)⟩⟩
    · refine ⟨_, hlo, (fun q => by rw [hst1] at q; cases q), .ret, by rw [hpe], ?_⟩
      simp only [bI, true_and]
      refine ⟨nS, by omega, ?_⟩
      rcases hh with ⟨k, hk1, hk2, hk3⟩ | hr
      · exact .inl ⟨k, hk1, hst nS _ _ _ _ _ (by omega) (by omega) hk2, hk3⟩
      · exact .inr (hsr nS _ _ _ _ (by omega) (by omega) hr)
noncomputable def L37 (tm : List a9) : kS := { state := .ready, pending := none, fn := 37, tmps := tm, params := [13], assign := NO, body := NJ }
def fnd (L : List Ver) (p k : Nat) (z : Int) : Option Ver := (((L.take k).drop p).filter fun v => dW v z).getLast?
theorem ak8 (L : List Ver) (p : Nat) (z : Int) : fnd L p p z = none := by
  unfold fnd
  rw [List.drop_eq_nil_of_le (by rw [List.length_take]; omega)]; rfl
theorem V9 {L : List Ver} {p k : Nat} (hp : p ≤ k) (hk : k < L.length) (z : Int) : fnd L p (k + 1) z = if dW L[k] z then some L[k] else fnd L p k z := by
  unfold fnd
  rw [List.take_add_one, List.getElem?_eq_getElem hk, List.drop_append_of_le_length (by rw [List.length_take]; omega), List.filter_append]
  by_cases c : dW L[k] z = true
  · rw [if_pos c]; simp [c]
  · rw [if_neg c]; simp [c]
theorem U2 {L : List Ver} {p k : Nat} {z : Int} {w : Ver} (h : fnd L p k z = some w) : w ∈ L := by
  have := List.mem_of_getLast? h
  exact List.mem_of_mem_take (List.mem_of_mem_drop (List.mem_filter.1 this).1)
theorem aS2 : build env 31 [] = M.pure (.agg eK.i.zero.cells) := rfl
def ae0 (H : Hp) (D : Nat → Prop) (c : a9) (o : Option Ver) : Prop := (c = .dG ∧ o = none) ∨ ∃ id sv w, c = .ptr id 0 ∧ o = some w ∧ At H id sv w ∧ D id ∧ ∀ j, aP sv = some j → D j
structure P37 (H6 : Hp) (n : Nat) (D : Nat → Prop) (L : List Ver) (aI : List UInt8) (pn z : Int) (lo : kS) (nS k : Nat) (h1 : Hp) (n1 : Nat) : Prop where
  fr : aY h1 n1
  ns : nS ≤ n1
  kp : ∀ j, j < n + 1 + 1 + 1 + 1 + 1 + 1 + 1 → j ≠ n + 1 + 1 + 1 → j ≠ n + 1 + 1 + 1 + 1 + 1 + 1 → h1 j = H6 j
  lp : h1 (n + 1 + 1 + 1 + 1 + 1 + 1) = some (.loop lo)
  cl : ∃ c, h1 (n + 1 + 1 + 1) = some (.row (.l [c]) 128) ∧ ae0 H6 D c (fnd L (pos false L (key aI pn 0)) k z)
  sm : ∀ i (hi : i < L.length), pos false L (key aI pn 0) ≤ i → i < k → same aI pn L[i] = true
end Go.Am.Ytlgebaofkolkoaa
set_option linter.unusedSimpArgs false
set_option linter.unusedVariables false
set_option linter.defProp false
set_option maxRecDepth 10000
namespace Go.Am.Ytlgebaofkolkoaa
open Go Go.Am Go.Proofs
set_option maxHeartbeats 4000000 in
theorem f37 (x : Nat) (aI : List UInt8) (pn z : Int) (hl : aI.length = 32) (L : List Ver) (D M : Nat → Prop) (h : Hp) (n : Nat) (hs : Ix h n D M x L) (hc : L.length ≤ 1000000) (hf : aY h n) :
    Wp (bH env (aV env) 37 [.ptr x 0, .agg (aS aI pn), .int .i64 z]) h n fun v' h' n' => Old h h' n ∧ ∃ k, pos false L (key aI pn 0) ≤ k ∧ (∀ i (hi : i < L.length), pos false L (key aI pn 0) ≤ i → i < k → same aI pn L[i] = true) ∧ (∀ hk : k < L.length, same aI pn L[k] = false) ∧
      ((fnd L (pos false L (key aI pn 0)) k z = none ∧ v' = .tup [.agg eK.i.zero.cells, .bool false]) ∨ ∃ w s', fnd L (pos false L (key aI pn 0)) k z = some w ∧ v' = .tup [.agg (aK w s'), .bool true] ∧ w ∈ L ∧ Bytes h' s' w.aJ ∧ ∀ j, aP s' = some j → n ≤ j ∧ j < n') := by
  obtain ⟨⟨S, s0, rS, perm⟩, rL, ok⟩ := hs
  obtain ⟨vl, vs, xl, xs, iv, mx, ml, ms, mn⟩ := s0
  refine aU aO0 aC2 ?_
  simp only [ZD, Try.f37, Option.getD_some, List.replicate, Nat.reduceAdd, Nat.reduceSub, gE]
  refine cG (v := .agg (aS aI pn)) gG rfl hf fun H1 r1 o1 f1 => ?_
  simp only [gE]
  refine cG (v := .int .i64 z) ti3 rfl f1 fun H2 r2 o2 f2 => ?_
  simp only [gE]
  rw [bU cY rfl]
  obtain ⟨H3, hH3⟩ : ∃ H3, H3 = upd H2 (n + 1 + 1) (some (Blk.row (bG.l eK.i.zero.cells) 31)) := ⟨_, rfl⟩
  show Ops env 37 none _ _ _ _ _ (upd H2 (n + 1 + 1) (some (Blk.row (bG.l eK.i.zero.cells) 31))) _
  rw [← hH3]
  have f3 : aY H3 (n + 1 + 1 + 1) := by rw [hH3]; exact f2.new
  have o3 : ∀ j, j ≠ n + 1 + 1 → H3 j = H2 j := fun j hj => by rw [hH3, aH _ _ hj]
  have r3 : H3 (n + 1 + 1) = some (Blk.row (bG.l eK.i.zero.cells) 31) := by rw [hH3, aO]
  clear hH3
  simp only [tyr, fgr, cel, alloc, oS, newRow, gE]
  have r1' : Row (upd H3 (n + 1 + 1 + 1) (some (Blk.row (bG.l [a9.dG]) 128))) n (aS aI pn) := ((r1.aM (o2 n (by omega))).aM (o3 n (by omega))).upd (by omega)
  rw [aE (show Rd (load env 28 (.ptr n 0)) _ _ [n] (.agg (aS aI pn)) from Row.eF r1' gG rfl (bM hl))]
  simp only [hkr, gE]
  refine dA (f81 x aI pn _ _) ?_
  simp only [bI, fgr, bP, put, aF]
  refine lD (g := 106) (first := []) (cap := [.ptr (n + 1 + 1 + 1 + 1) 0, .ptr (n + 1 + 1 + 1 + 1 + 1) 0]) rfl rfl ?_
  let TM : List a9 := (.ptr x 0 :: .agg (aS aI pn) :: .int .i64 z :: a9.aA :: .ptr n 0 :: .ptr (n + 1) 0 :: .ptr (n + 1 + 1) 0 :: .bool false :: .ptr (n + 1 + 1 + 1) 0 :: undef :: a9.aA :: a9.aA :: .fn (.func 106) [] [.ptr (n + 1 + 1 + 1 + 1) 0, .ptr (n + 1 + 1 + 1 + 1 + 1) 0] :: undef :: a9.aA :: a9.aA :: a9.aA :: a9.aA :: a9.aA :: undef :: a9.aA :: a9.aA :: undef :: a9.aA :: a9.aA :: a9.aA :: a9.aA :: a9.aA :: [])
  obtain ⟨H6, hH6⟩ : ∃ H6, H6 = upd (upd (upd (upd H3 (n + 1 + 1 + 1) (some (Blk.row (bG.l [a9.dG]) 128))) (n + 1 + 1 + 1 + 1) (some (Blk.row (bG.l [a9.ptr x 0]) 56))) (n + 1 + 1 + 1 + 1 + 1) (some (Blk.row (bG.l (aS aI pn)) 28))) (n + 1 + 1 + 1 + 1 + 1 + 1) (some (Blk.loop (L37 TM))) := ⟨_, rfl⟩
  show Wp (fX env (aV env) 106 [a9.fn (Fn.yield (n + 1 + 1 + 1 + 1 + 1 + 1)) [] [], a9.ptr (n + 1 + 1 + 1 + 1) 0, a9.ptr (n + 1 + 1 + 1 + 1 + 1) 0]) (upd (upd (upd (upd H3 (n + 1 + 1 + 1) (some (Blk.row (bG.l [a9.dG]) 128))) (n + 1 + 1 + 1 + 1) (some (Blk.row (bG.l [a9.ptr x 0]) 56))) (n + 1 + 1 + 1 + 1 + 1) (some (Blk.row (bG.l (aS aI pn)) 28))) (n + 1 + 1 + 1 + 1 + 1 + 1) (some (Blk.loop (L37 TM)))) _ _
  rw [V4, ← hH6]
  have f6 : aY H6 (n + 1 + 1 + 1 + 1 + 1 + 1 + 1) := by rw [hH6]; exact f3.new.new.new.new
  have old6 : Old h H6 n := fun j hj => by rw [hH6, aH _ _ (by omega), aH _ _ (by omega), aH _ _ (by omega), aH _ _ (by omega), o3 j (by omega), o2 j (by omega), o1 j (by omega)]
  have g1 : Row H6 (n + 1) [.int .i64 z] := by rw [hH6]; exact ((((r2.aM (o3 (n + 1) (by omega))).upd (by omega)).upd (by omega)).upd (by omega)).upd (by omega)
  have g2 : H6 (n + 1 + 1) = some (Blk.row (bG.l eK.i.zero.cells) 31) := by rw [hH6, aH _ _ (by omega), aH _ _ (by omega), aH _ _ (by omega), aH _ _ (by omega)]; exact r3
  have g3 : H6 (n + 1 + 1 + 1) = some (Blk.row (bG.l [a9.dG]) 128) := by rw [hH6, aH _ _ (by omega), aH _ _ (by omega), aH _ _ (by omega), aO]
  have g4 : Row H6 (n + 1 + 1 + 1 + 1) [.ptr x 0] := by rw [hH6]; exact ((Row.new _ _ _ _).upd (by omega)).upd (by omega)
  have g5 : Row H6 (n + 1 + 1 + 1 + 1 + 1) (aS aI pn) := by rw [hH6]; exact (Row.new _ _ _ _).upd (by omega)
  have g6 : H6 (n + 1 + 1 + 1 + 1 + 1 + 1) = some (.loop (L37 TM)) := by rw [hH6, aO]
  clear hH6
  have iv6 : IxV H6 (n + 1 + 1 + 1 + 1 + 1 + 1 + 1) D x vl vs xl xs L S := by
    exact ⟨iv.row.aM (old6 x iv.xn), iv.l.aM (fun j q => old6 j (mn j (ml j q)).1), iv.lp.mono (fun j q => q) (fun j q => old6 j (iv.dn j q)), iv.s.aM (fun j q => old6 j (mn j (ms j q)).1), iv.sp.mono (fun j q => q) (fun j q => old6 j (iv.dn j q)), by have := iv.xn; omega, fun j q => by have := iv.dn j q; omega, iv.xd, iv.vlx, iv.vsx⟩
  have lt : ∀ (j : Nat), j < n → ∀ (h1 : Hp), (∀ j, j < n + 1 + 1 + 1 + 1 + 1 + 1 + 1 → j ≠ n + 1 + 1 + 1 → j ≠ n + 1 + 1 + 1 + 1 + 1 + 1 → h1 j = H6 j) → h1 j = H6 j := fun j hj h1 hk => hk j (by omega) (by omega) (by omega)
  refine cP ((f106 (.fn (.yield (n + 1 + 1 + 1 + 1 + 1 + 1)) [] []) (n + 1 + 1 + 1 + 1) (n + 1 + 1 + 1 + 1 + 1) x aI pn hl L S D (P37 H6 n D L aI pn z (L37 TM)) (fun _ _ _ => False) vl vs xl xs H6 (n + 1 + 1 + 1 + 1 + 1 + 1 + 1) iv6 (fun j q => by have := (mn j (ml j q)).1; omega) rL hc ⟨rfl, rfl, rfl⟩ g4 g5 (by omega) (by omega) f6 ?_ ?_ ?_ (fun _ _ _ _ _ _ _ q => q) ?_).yB f6) ?_
  · intro nS k h1 n1 p
    exact ⟨iv6.l.rds.aM (fun j q => lt j (mn j (ml j q)).1 h1 p.kp), iv6.lp.mono (fun j q => q) (fun j q => lt j (iv.dn j q) h1 p.kp), p.fr⟩
  · intro h' nS hn' hf' ho'
    exact ⟨hf', Nat.le_refl _, fun j hj _ _ => ho' j hj, (ho' _ (by omega)).trans g6, ⟨.dG, (ho' _ (by omega)).trans g3, .inl ⟨rfl, ak8 _ _ _⟩⟩, fun i hi h1 h2 => by omega⟩
  · intro nS k h1 n1 i b hi hns p
    obtain ⟨c, hc1, hc2⟩ := p.cl
    exact ⟨p.fr.upd (by have := p.ns; omega), p.ns, fun j hj h1' h2' => by rw [aH _ _ (by omega)]; exact p.kp j hj h1' h2', by rw [aH _ _ (by omega)]; exact p.lp, ⟨c, by rw [aH _ _ (by omega)]; exact hc1, hc2⟩, p.sm⟩
  · intro nS k hk id sv h1 n1 hnS hpk p a d1 d2 hsm
    have hidn := iv.dn id d1
    refine nA p.lp rfl rfl ?_
    simp only [NO, List.getD_cons_zero, lT, List.zip_cons_cons, List.zip_nil_left, L37, TM, cE, Try.f37, Option.getD_some, fgr, gE]
    refine ⟨_, p.lp, rfl, ?_⟩
    obtain ⟨h2, hh2⟩ : ∃ h2, h2 = upd h1 (n + 1 + 1 + 1 + 1 + 1 + 1) (some (Blk.loop { L37 TM with state := .busy })) := ⟨_, rfl⟩
    have ho2 : ∀ j, j ≠ n + 1 + 1 + 1 + 1 + 1 + 1 → h2 j = h1 j := fun j hj => by rw [hh2, aH _ _ hj]
    have hlo2 : h2 (n + 1 + 1 + 1 + 1 + 1 + 1) = some (.loop { L37 TM with state := .busy }) := by rw [hh2, aO]
    have hns := p.ns
    have hf2 : aY h2 n1 := by rw [hh2]; exact p.fr.upd (by omega)
    show Run env 37 _ _ _ _ _ (upd h1 (n + 1 + 1 + 1 + 1 + 1 + 1) (some (Blk.loop { L37 TM with state := .busy }))) n1
    rw [← hh2]
    clear hh2
    have a2 : At h2 id sv L[k] := a.aM (ho2 id (by omega)) (fun j q => ho2 j (by have := iv.dn j (d2 j q); omega))
    have a6 : At H6 id sv L[k] := a.aM (lt id hidn h1 p.kp).symm (fun j q => (lt j (iv.dn j (d2 j q)) h1 p.kp).symm)
    have rz : Row h2 (n + 1) [.int .i64 z] := g1.aM ((ho2 (n + 1) (by omega)).trans (p.kp (n + 1) (by omega) (by omega) (by omega)))
    obtain ⟨c, hc1, hc2⟩ := p.cl
    simp only [NJ, List.getD_cons_zero, cE, Try.f37, Option.getD_some, bI, fgr, List.nil_append, List.append_nil]
    refine bW ⟨rfl, ?_⟩
    simp only [Nat.reduceAdd, gE]
    rw [aW (dO a2.row a2.ok)]
    simp only [Nat.reduceAdd, gE]
    rw [aW (rz.one (off := 0) rfl ti3 rfl)]
    simp only [hkr, Nat.reduceAdd, gE]
    refine cU hf2 (f82 L[k] sv a2.ok z h2 n1 hf2) fun v6 h6 n6 r6 w6 hn6 f6' ⟨e6, o6⟩ => ?_
    subst e6
    have hlo6 : h6 (n + 1 + 1 + 1 + 1 + 1 + 1) = some (.loop { L37 TM with state := .busy }) := (o6 _ (by omega)).trans hlo2
    have hc6 : h6 (n + 1 + 1 + 1) = some (.row (.l [c]) 128) := ((o6 _ (by omega)).trans (ho2 _ (by omega))).trans hc1
    have sm' : ∀ i (hi : i < L.length), pos false L (key aI pn 0) ≤ i → i < k + 1 → same aI pn L[i] = true := fun i hi h1' h2' => by
      by_cases q : i = k
      · subst q; exact hsm
      · exact p.sm i hi h1' (by omega)
    have keep6 : ∀ j, j < n1 → j ≠ n + 1 + 1 + 1 + 1 + 1 + 1 → h6 j = h1 j := fun j hj hne => (o6 j hj).trans (ho2 j hne)
    cases hth : dW L[k] z with
    | false =>
      simp only [fgr, unOp, Nat.reduceAdd, gE]
      refine ⟨(by (try simp (disch := first | assumption | omega) only [cJ, gF]); repeat' (first | rfl | exact (Bool.or_eq_true _ _).mpr (.inr rfl) | refine (Bool.and_eq_true _ _).mpr ⟨?_, ?_⟩)), _, hlo6, .inl ⟨.inl rfl, ⟨f6'.upd (by omega), by omega, fun j hj h1' h2' => ?_, aO _ _ _, ⟨c, by rw [aH _ _ (by omega)]; exact hc6, by rw [V9 hpk hk, hth]; exact hc2⟩, sm'⟩⟩, fun j hj hjn => ?_, ?_⟩
      · rw [aH _ _ h2', keep6 j (by omega) h2']; exact p.kp j hj h1' h2'
      · rw [aH _ _ (by omega), keep6 j (by omega) (by omega)]
      · rw [aH _ _ (by omega), keep6 _ (by omega) (by omega)]
    | true =>
      simp only [fgr, unOp, Nat.reduceAdd, gE]
      refine ⟨(by (try simp (disch := first | assumption | omega) only [cJ, gF]); repeat' (first | rfl | exact (Bool.or_eq_true _ _).mpr (.inr rfl) | refine (Bool.and_eq_true _ _).mpr ⟨?_, ?_⟩)), ?_⟩
      rw [cR (Row.write (v := .ptr id 0) hc6 iT rfl (by show 0 + 1 ≤ 1; omega) rfl)]
      simp only [bI, fgr, bP, aF, cel]
      have spl : bV [c] 0 [a9.ptr id 0] = [a9.ptr id 0] := rfl
      refine ⟨_, (aH _ _ (by omega)).trans hlo6, .inl ⟨.inl rfl, ⟨(f6'.upd (by omega)).upd (by omega), by omega, fun j hj h1' h2' => ?_, aO _ _ _, ⟨.ptr id 0, by rw [aH _ _ (by omega), aO]; rfl, .inr ⟨id, sv, L[k], rfl, by rw [V9 hpk hk, hth]; rfl, a6, d1, d2⟩⟩, sm'⟩⟩, fun j hj hjn => ?_, ?_⟩
      · rw [aH _ _ h2', aH _ _ h1', keep6 j (by omega) h2']; exact p.kp j hj h1' h2'
      · rw [aH _ _ (by omega), aH _ _ (by omega), keep6 j (by omega) (by omega)]
      · rw [aH _ _ (by omega), aH _ _ (by omega), keep6 _ (by omega) (by omega)]
  · rintro v5 h5 n5 ⟨⟨e5, nS, hnS, hh⟩, hn5, f5⟩
    rcases hh with ⟨k, hk1, p, hk3⟩ | hr
    · refine ⟨_, p.lp, (fun q => by cases q), .normal, rfl, ?_⟩
      obtain ⟨c, hc1, hc2⟩ := p.cl
      have hns := p.ns
      obtain ⟨h7, hh7⟩ : ∃ h7, h7 = upd h5 (n + 1 + 1 + 1 + 1 + 1 + 1) (some (Blk.loop { L37 TM with state := .exhausted })) := ⟨_, rfl⟩
      have ho7 : ∀ j, j ≠ n + 1 + 1 + 1 + 1 + 1 + 1 → h7 j = h5 j := fun j hj => by rw [hh7, aH _ _ hj]
      have f7 : aY h7 n5 := by rw [hh7]; exact f5.upd (by omega)
      show cV env 37 none _ _ _ _ (upd h5 (n + 1 + 1 + 1 + 1 + 1 + 1) (some (Blk.loop { L37 TM with state := .exhausted }))) n5
      rw [← hh7]
      clear hh7
      have kp7 : ∀ j, j < n → h7 j = h j := fun j hj => by rw [ho7 j (by omega), lt j hj h5 p.kp, old6 j hj]
      have hcell : Row h7 (n + 1 + 1 + 1) [c] := ⟨_, (ho7 _ (by omega)).trans hc1⟩
      have res : h7 (n + 1 + 1) = some (Blk.row (bG.l eK.i.zero.cells) 31) := (ho7 _ (by omega)).trans ((p.kp _ (by omega) (by omega) (by omega)).trans g2)
      simp only [gE]
      rw [aE (hcell.one (off := 0) rfl iT rfl)]
      rcases hc2 with ⟨rfl, hn⟩ | ⟨id, sw, w, rfl, hw, a, d1, d2⟩
      · simp only [tyr, fgr, bor, bL, gK, bS, equal, gN, eN, eO, aS2, gE]
        rw [cR (Row.write (v := .agg eK.i.zero.cells) res cY rfl (by decide) rfl)]
        have spl : bV eK.i.zero.cells 0 (a9.agg eK.i.zero.cells).cells = eK.i.zero.cells := dC rfl
        rw [spl]
        simp only [fgr, gE]
        refine dX (Row.eF (cs := eK.i.zero.cells) (Row.new _ _ _ _) cY rfl rfl) ?_
        exact aT.2 ⟨fun j hj => by rw [aH _ _ (by omega), kp7 j hj], k, hk1, p.sm, hk3, .inl ⟨hn, rfl⟩⟩
      · simp only [tyr, fgr, bor, bL, gK, bS, equal, gN, eN, eO, gE]
        rw [aE (hcell.one (off := 0) rfl iT rfl)]
        have hwL := U2 hw
        have okw := ok w hwL
        have hidn := iv.dn id d1
        have a7 : At h7 id sw w := a.aM ((ho7 id (by omega)).trans (lt id hidn h5 p.kp)) (fun j q => (ho7 j (by have := iv.dn j (d2 j q); omega)).trans (lt j (iv.dn j (d2 j q)) h5 p.kp))
        simp only [gE]
        rw [aE (dO a7.row a7.ok)]
        simp only [hkr, gE]
        refine aQ f7 (f77 w sw a7.ok h7 n5 a7.s (fun j q => by have := iv.dn j (d2 j q); omega) okw.2 f7) fun v8 h8 n8 hn8 f8 ⟨s', e8, b8, i8, o8⟩ => ?_
        subst e8
        simp only [gE]
        have res8 : h8 (n + 1 + 1) = some (Blk.row (bG.l eK.i.zero.cells) 31) := (o8 _ (by omega)).trans res
        rw [cR (Row.write (v := .agg (aK w s')) res8 cY (aZ a7.ok.h a7.ok.b) (by decide) (c8 b8.kind.2.1))]
        have spl : bV eK.i.zero.cells 0 (a9.agg (aK w s')).cells = aK w s' := dC (aZ a7.ok.h a7.ok.b)
        rw [spl]
        simp only [fgr, gE]
        refine dX (dO (Row.new _ _ _ _) a7.ok) ?_
        refine aT.2 ⟨fun j hj => by rw [aH _ _ (by omega), o8 j (by omega), kp7 j hj], k, hk1, p.sm, hk3, .inr ⟨w, s', hw, rfl, hwL, b8.aM fun j q => aH _ _ (by have := i8 j q; omega), fun j q => by have := i8 j q; omega⟩⟩
    · exact hr.elim
theorem f89 (v w : a9) (a b : List UInt8) (h : Hp) (n : Nat) (ha : Bytes h v a) (hb : Bytes h w b) : Wp (bH env (aV env) 89 [v, w]) h n fun v' h' n' => v' = .bool (a == b) ∧ h' = h ∧ n' = n := by
  refine aU aK4 ay6 ?_
  simp only [YD, Try.f89, Option.getD_some, List.replicate, fgr, Nat.reduceAdd, Nat.reduceSub, ha.str t29 t9 t5, gE]
  rw [hb.str t29 t9 t5]
  simp only [fgr, bor, strOp, gE]
theorem CT {id off : Nat} {z : Int} {j : Nat} (hz : z = (j : Nat)) (hj : j < 32) {h' : Hp} {n' : Nat} : Rd (indexAddr env 25 (.ptr id off) (.int .i64 z)) h' n' [] (.ptr id (off + j)) := by
  subst hz
  simp only [indexAddr, u25, aB, fJ, z5, Go.Am.idx, bind_assoc, Int.toNat_natCast, Nat.mul_one, aR]
  exact Rd.bind (i2 := []) (Rd.ob (decide_eq_true ⟨by omega, by omega⟩)) (Rd.pure _)
theorem DS {aI : List UInt8} {pn : Int} {j : Nat} (hj : j < aI.length) : (aS aI pn)[j]? = some (u8 aI[j]) := by
  unfold aS
  rw [List.getElem?_append_left (by simpa using hj), List.getElem?_map, List.getElem?_eq_getElem hj]; rfl
theorem XL (Q : dI) (ks : List Kf) (p q : Nat) (h1 h2 : List UInt8) (n1 n2 : Int) (l1 : h1.length = 32) (l2 : h2.length = 32) (h : Hp) (n : Nat) (r1 : Row h p (aS h1 n1)) (r2 : Row h q (aS h2 n2))
    (hT : ∀ (x0 x1 x5 x7 x18 x27 x32 x37 : a9), Lib.compareBytes h1 h2 = 0 → cV env 87 none Q ks (.exit 0) (x0 :: x1 :: .ptr p 0 :: .ptr q 0 :: .int .i64 0 :: x5 :: a9.aA :: x7 :: a9.aA :: a9.aA :: a9.aA :: a9.aA :: a9.aA :: a9.aA :: a9.aA :: a9.aA :: a9.aA :: a9.aA :: x18 :: a9.aA :: a9.aA :: a9.aA :: a9.aA :: a9.aA :: a9.aA :: a9.aA :: a9.aA :: x27 :: a9.aA :: a9.aA :: a9.aA :: a9.aA :: x32 :: a9.aA :: a9.aA :: a9.aA :: a9.aA :: x37 :: []) h n)
    (hR : ∀ (r : Int) (x0 x1 x5 x7 x18 x27 x32 x37 : a9), r ≠ 0 → Lib.compareBytes h1 h2 = r → cV env 87 none Q ks .ret (x0 :: x1 :: .ptr p 0 :: .ptr q 0 :: .int .i64 r :: x5 :: a9.aA :: x7 :: a9.aA :: a9.aA :: a9.aA :: a9.aA :: a9.aA :: a9.aA :: a9.aA :: a9.aA :: a9.aA :: a9.aA :: x18 :: a9.aA :: a9.aA :: a9.aA :: a9.aA :: a9.aA :: a9.aA :: a9.aA :: a9.aA :: x27 :: a9.aA :: a9.aA :: a9.aA :: a9.aA :: x32 :: a9.aA :: a9.aA :: a9.aA :: a9.aA :: x37 :: []) h n) :
    ∀ (m i : Nat) (x0 x1 x7 x18 x27 x32 x37 : a9), i + m = 32 → Lib.compareBytes (h1.drop i) (h2.drop i) = Lib.compareBytes h1 h2 → Run env 87 none Q (.loop G6) ks (x0 :: x1 :: .ptr p 0 :: .ptr q 0 :: .int .i64 0 :: .int .i64 (i : Nat) :: a9.aA :: x7 :: a9.aA :: a9.aA :: a9.aA :: a9.aA :: a9.aA :: a9.aA :: a9.aA :: a9.aA :: a9.aA :: a9.aA :: x18 :: a9.aA :: a9.aA :: a9.aA :: a9.aA :: a9.aA :: a9.aA :: a9.aA :: a9.aA :: x27 :: a9.aA :: a9.aA :: a9.aA :: a9.aA :: x32 :: a9.aA :: a9.aA :: a9.aA :: a9.aA :: x37 :: []) h n := by
  intro m
  induction m with
  | zero =>
    intro i x0 x1 x7 x18 x27 x32 x37 hi he
    rw [bO]
    have hcc : ¬ (((i : Nat) : Int) < 32) := by omega
    have d1 : h1.drop i = [] := by rw [List.drop_eq_nil_iff]; omega
    have d2 : h2.drop i = [] := by rw [List.drop_eq_nil_iff]; omega
    rw [d1, d2] at he
    simp only [G6, bC, Try.f87, Option.getD_some, fgr, bor, Int.reduceNeg, List.getD_cons_zero, hcc, gE]
    exact hT _ _ _ _ _ _ _ _ he.symm
  | succ m ih =>
    intro i x0 x1 x7 x18 x27 x32 x37 hi he
    rw [bO]
    have hcc : (((i : Nat) : Int) < 32) := by omega
    simp only [G6, bC, Try.f87, Option.getD_some, fgr, bor, Int.reduceNeg, List.getD_cons_zero, hcc, gE]
    have i1 : i < h1.length := by omega
    have i2 : i < h2.length := by omega
    have e1 : h1.drop i = h1[i] :: h1.drop (i + 1) := (List.getElem_cons_drop i1).symm
    have e2 : h2.drop i = h2[i] :: h2.drop (i + 1) := (List.getElem_cons_drop i2).symm
    rw [e1, e2] at he
    simp only [Lib.compareBytes] at he
    have g1 := r1.one (E := env) (n := n) (off := 0 + i) (by rw [Nat.zero_add]; exact DS i1) ti5 rfl
    have g2 := r2.one (E := env) (n := n) (off := 0 + i) (by rw [Nat.zero_add]; exact DS i2) ti5 rfl
    have x1' := CT (id := p) (off := 0) (z := ((i : Nat) : Int)) (j := i) rfl (by omega) (h' := h) (n' := n)
    have x2' := CT (id := q) (off := 0) (z := ((i : Nat) : Int)) (j := i) rfl (by omega) (h' := h) (n' := n)
    have w1 : IntKind.i64.wrap (((i : Nat) : Int) + 1) = ((i + 1 : Nat) : Int) := by rw [w64 (by omega) (by omega)]; omega
    rw [Nat.zero_add] at g1 g2 x1' x2'
    by_cases c1 : h1[i] < h2[i]
    · have c1' : ((h1[i].toNat : Nat) : Int) < ((h2[i].toNat : Nat) : Int) := by rw [UInt8.lt_iff_toNat_lt] at c1; omega
      rw [if_pos c1] at he
      refine bW ⟨rfl, ?_⟩
      simp only [tyr, aR, Nat.reduceAdd, Int.reduceNeg, gE]
      rw [aW x1']
      simp only [Nat.reduceAdd, Int.reduceNeg, gE]
      rw [aW g1]
      simp only [u8, tyr, aR, Nat.reduceAdd, Int.reduceNeg, gE]
      rw [aW x2']
      simp only [Nat.reduceAdd, Int.reduceNeg, gE]
      rw [aW g2]
      simp only [u8, fgr, bor, Nat.reduceAdd, Int.reduceNeg, u8, c1', gE]
      refine ⟨(by (try simp (disch := omega) only [cJ, gF]); repeat' (first | rfl | exact (Bool.or_eq_true _ _).mpr (.inr rfl) | refine (Bool.and_eq_true _ _).mpr ⟨?_, ?_⟩)), ?_⟩
      exact hR (-1) _ _ _ _ _ _ _ _ (by decide) he.symm
    have c1' : ¬ ((h1[i].toNat : Nat) : Int) < ((h2[i].toNat : Nat) : Int) := by rw [UInt8.lt_iff_toNat_lt] at c1; omega
    rw [if_neg c1] at he
    refine bW ⟨rfl, ?_⟩
    simp only [tyr, aR, Nat.reduceAdd, Int.reduceNeg, gE]
    rw [aW x1']
    simp only [Nat.reduceAdd, Int.reduceNeg, gE]
    rw [aW g1]
    simp only [u8, tyr, aR, Nat.reduceAdd, Int.reduceNeg, gE]
    rw [aW x2']
    simp only [Nat.reduceAdd, Int.reduceNeg, gE]
    rw [aW g2]
    simp only [u8, fgr, bor, Nat.reduceAdd, Int.reduceNeg, u8, c1', gE]
    refine ⟨(by (try simp (disch := omega) only [cJ, gF]); repeat' (first | rfl | exact (Bool.or_eq_true _ _).mpr (.inr rfl) | refine (Bool.and_eq_true _ _).mpr ⟨?_, ?_⟩)), ?_⟩
    refine bW ⟨rfl, ?_⟩
    simp only [tyr, aR, Nat.reduceAdd, Int.reduceNeg, gE]
    rw [aW x1']
    simp only [Nat.reduceAdd, Int.reduceNeg, gE]
    rw [aW g1]
    simp only [u8, tyr, aR, Nat.reduceAdd, Int.reduceNeg, gE]
    rw [aW x2']
    simp only [Nat.reduceAdd, Int.reduceNeg, gE]
    rw [aW g2]
    by_cases c2 : h2[i] < h1[i]
    · have c2' : ((h2[i].toNat : Nat) : Int) < ((h1[i].toNat : Nat) : Int) := by rw [UInt8.lt_iff_toNat_lt] at c2; omega
      rw [if_pos c2] at he
      simp only [u8, fgr, bor, Nat.reduceAdd, Int.reduceNeg, gt_iff_lt, u8, c2', gE]
      refine ⟨(by (try simp (disch := omega) only [cJ, gF]); repeat' (first | rfl | exact (Bool.or_eq_true _ _).mpr (.inr rfl) | refine (Bool.and_eq_true _ _).mpr ⟨?_, ?_⟩)), ?_⟩
      exact hR 1 _ _ _ _ _ _ _ _ (by decide) he.symm
    · have c2' : ¬ ((h2[i].toNat : Nat) : Int) < ((h1[i].toNat : Nat) : Int) := by rw [UInt8.lt_iff_toNat_lt] at c2; omega
      rw [if_neg c2] at he
      simp only [u8, fgr, bor, bZ, Nat.reduceAdd, Int.reduceNeg, gt_iff_lt, u8, c2', gE]
      refine ⟨(by (try simp (disch := omega) only [cJ, gF]); repeat' (first | rfl | exact (Bool.or_eq_true _ _).mpr (.inr rfl) | refine (Bool.and_eq_true _ _).mpr ⟨?_, ?_⟩)), ?_⟩
      simp only [Int.reduceNeg, w1]
      exact ih (i + 1) _ _ _ _ _ _ _ (by omega) he
theorem f87 (h1 h2 : List UInt8) (n1 n2 : Int) (l1 : h1.length = 32) (l2 : h2.length = 32) (h : Hp) (n : Nat) (hf : aY h n) :
    Wp (bH env (aV env) 87 [.agg (aS h1 n1), .agg (aS h2 n2)]) h n fun v' h' n' => v' = .int .i64 (qM h1 n1 h2 n2) ∧ Old h h' n := by
  refine aU aK6 ay8 ?_
  simp only [YF, Try.f87, Option.getD_some, List.replicate, Nat.reduceAdd, Nat.reduceSub, Int.reduceNeg, gE]
  refine cG (v := .agg (aS h1 n1)) gG rfl hf fun H1 r1 o1 f1 => ?_
  simp only [Int.reduceNeg, gE]
  refine cG (v := .agg (aS h2 n2)) gG rfl f1 fun H2 r2 o2 f2 => ?_
  simp only [fgr, Int.reduceNeg, gE]
  have r1' : Row H2 n (aS h1 n1) := r1.aM (o2 n (by omega))
  have r2' : Row H2 (n + 1) (aS h2 n2) := r2
  have old2 : Old h H2 n := fun j hj => by rw [o2 j (by omega), o1 j (by omega)]
  refine XL _ _ n (n + 1) h1 h2 n1 n2 l1 l2 H2 _ r1' r2' ?_ ?_ 32 0 _ _ _ _ _ _ _ (by omega) (by rw [List.drop_zero, List.drop_zero])
  · intro x0 x1 x5 x7 x18 x27 x32 x37 he
    simp only [tyr, aR, Int.reduceNeg, gE]
    rw [aE (r1'.one (gY l1) pK rfl)]
    simp only [tyr, aR, Int.reduceNeg, gE]
    rw [aE (r2'.one (gY l2) pK rfl)]
    by_cases c1 : n1 < n2
    · simp only [fgr, bor, Int.reduceNeg, c1, gE]
      exact ⟨by simp [qM, orI, he, iO, c1], old2⟩
    simp only [tyr, fgr, bor, aR, Int.reduceNeg, c1, gE]
    rw [aE (r1'.one (gY l1) pK rfl)]
    simp only [tyr, aR, gE]
    rw [aE (r2'.one (gY l2) pK rfl)]
    by_cases c2 : n2 < n1
    · simp only [fgr, bor, gt_iff_lt, c2, gE]
      exact ⟨by simp [qM, orI, he, iO, c1, c2], old2⟩
    · simp only [fgr, bor, gt_iff_lt, c2, gE]
      exact ⟨by simp [qM, orI, he, iO, c1, c2], old2⟩
  · intro r x0 x1 x5 x7 x18 x27 x32 x37 h0 he
    simp only [bI, nth, Int.reduceNeg, true_and]
    exact ⟨by simp [qM, orI, he, h0], old2⟩
theorem VE (a b : List UInt8) (l1 : a.length = 32) (l2 : b.length = 32) : binOp env .eql 25 (.agg (a.map u8)) (.agg (b.map u8)) = M.pure (.bool (decide (a = b))) := by
  have e := QB 98 a b l1 l2
  show bL env .eql 25 (.agg (a.map u8)) (.agg (b.map u8)) = _
  unfold bL
  simp only
  unfold bS
  rw [e, aB]
def wM (v w : Ver) : Bool := decide (qM v.aI v.pn w.aI w.pn = 0) && (decide (v.made = w.made) && (decide (v.value = w.value) && ((v.cX == w.cX) && (decide (v.bX = w.bX) && (decide (v.by_ = w.by_) && (v.aJ == w.aJ))))))
set_option maxHeartbeats 4000000 in
theorem f42 (v w : Ver) (sv sw : a9) (ov : v.Ok) (ow : w.Ok) (h : Hp) (n : Nat) (hb : Bytes h sv v.aJ) (hb2 : Bytes h sw w.aJ) (hn1 : ∀ j, aP sv = some j → j < n) (hn2 : ∀ j, aP sw = some j → j < n) (hf : aY h n) :
    Wp (bH env (aV env) 42 [.agg (aK v sv), .agg (aK w sw)]) h n fun v' h' n' => v' = .bool (wM v w) ∧ Old h h' n := by
  refine aU aN5 aB7 ?_
  simp only [Z8, Try.f42, Option.getD_some, List.replicate, Nat.reduceAdd, Nat.reduceSub, gE]
  refine cG (v := .agg (aK v sv)) cY rfl hf fun H1 r1 o1 f1 => ?_
  simp only [gE]
  refine cG (v := .agg (aK w sw)) cY rfl f1 fun H2 r2 o2 f2 => ?_
  have r1' : Row H2 n (aK v sv) := r1.aM (o2 n (by omega))
  have r2' : Row H2 (n + 1) (aK w sw) := r2
  have old2 : Old h H2 n := fun j hj => by rw [o2 j (by omega), o1 j (by omega)]
  simp only [tyr, fgr, aR, gE]
  rw [aE (iL r1' ov)]
  simp only [tyr, aR, gE]
  rw [aE (iL r2' ow)]
  simp only [hkr, gE]
  refine aQ f2 (f87 v.aI w.aI v.pn w.pn ov.h ow.h H2 _ f2) fun v3 h3 n3 hn3 f3 ⟨e3, o3⟩ => ?_
  subst e3
  have r1' := r1'.aM (o3 n (by omega))
  have r2' := r2'.aM (o3 (n + 1) (by omega))
  have old3 : Old h h3 n := fun j hj => by rw [o3 j (by omega), old2 j hj]
  have b1 := hb.aM (h' := h3) (fun j q => old3 j (hn1 j q))
  have b2 := hb2.aM (h' := h3) (fun j q => old3 j (hn2 j q))
  by_cases c0 : qM v.aI v.pn w.aI w.pn = 0
  rotate_left
  · simp only [fgr, bor, bE, c0, gE]
    exact ⟨by simp [wM, c0], old3⟩
  simp only [tyr, fgr, bor, aR, c0, gE]
  rw [aE (eX r1' ov)]
  simp only [tyr, aR, gE]
  rw [aE (eX r2' ow)]
  by_cases c1 : v.made = w.made
  rotate_left
  · simp only [fgr, bor, bE, c1, gE]
    exact ⟨by simp [wM, c0, c1], old3⟩
  simp only [tyr, bor, bE, aR, c1, gE]
  rw [aE (jY r1' ov)]
  simp only [tyr, aR, gE]
  rw [aE (jY r2' ow)]
  by_cases c2 : v.value = w.value
  rotate_left
  · simp only [fgr, bor, bE, c2, gE]
    exact ⟨by simp [wM, c0, c1, c2], old3⟩
  simp only [tyr, bor, bE, aR, c2, gE]
  rw [aE (DK r1' ov)]
  simp only [tyr, aR, gE]
  rw [aE (DK r2' ow)]
  by_cases c3 : v.cX = w.cX
  rotate_left
  · have cb : (v.cX == w.cX) = false := beq_eq_false_iff_ne.2 c3
    simp only [tyr, fgr, bor, bL, gK, bE, bS, equal, gN, eN, eO, cb, gE]
    exact ⟨by simp [wM, c0, c1, c2, c3], old3⟩
  have cb : (v.cX == w.cX) = true := beq_iff_eq.2 c3
  simp only [tyr, bor, bL, gK, bE, aR, bS, equal, gN, eN, eO, cb, gE]
  rw [aE (dB r1' ov)]
  simp only [tyr, aR, gE]
  rw [aE (dB r2' ow)]
  by_cases c4 : v.bX = w.bX
  rotate_left
  · simp only [fgr, bor, bE, c4, gE]
    exact ⟨by simp [wM, c0, c1, c2, c3, c4], old3⟩
  simp only [tyr, bor, bE, aR, c4, gE]
  rw [aE (FW r1' ov)]
  simp only [tyr, aR, gE]
  rw [aE (FW r2' ow)]
  have hq := VE v.by_ w.by_ ov.b ow.b
  by_cases c5 : v.by_ = w.by_
  rotate_left
  · rw [decide_eq_false c5] at hq
    simp only [fgr, bE, hq, gE]
    exact ⟨by simp [wM, c0, c1, c2, c3, c4, c5], old3⟩
  rw [decide_eq_true c5] at hq
  simp only [tyr, bE, aR, hq, gE]
  rw [aE (gS r1' ov)]
  simp only [gE]
  rw [b1.str t29 t9 t5]
  simp only [tyr, aR, gE]
  rw [aE (gS r2' ow)]
  simp only [gE]
  rw [b2.str t29 t9 t5]
  simp only [fgr, bor, strOp, bE, gE]
  exact ⟨by simp [wM, c0, c1, c2, c3, c4, c5]; rw [Bool.eq_iff_iff]; simp, old3⟩
def eqL : List Ver → List Ver → Bool
  | [], [] => true
  | v :: l, w :: m => wM v w && eqL l m
  | _, _ => false
theorem J1 : ∀ (l m : List Ver), l.length ≠ m.length → eqL l m = false
  | [], [], h => absurd rfl h
  | [], _ :: _, _ => rfl
  | _ :: _, [], _ => rfl
  | v :: l, w :: m, h => by
    simp only [eqL, J1 l m (fun e => h (by simp [e])), Bool.and_false]
theorem D7 {h : Hp} {D : Nat → Prop} {cells : List a9} {vs : List Ver} (p : Vs h D cells vs) {v : a9} (hv : Rds h 70 v vs.length cells) {i : Nat} (hi : i < vs.length) {n : Nat} : ∃ sv, Rd (load env 31 (cS (i * 70) v)) h n (rid v) (.agg (aK vs[i] sv)) ∧ Bytes h sv vs[i].aJ ∧ vs[i].Ok ∧ ∀ j, aP sv = some j → D j := by
  obtain ⟨sv, e, b, o, d⟩ := p.at_ i hi
  refine ⟨sv, ?_, b, o, d⟩
  have := hv.agg (E := env) (n := n) (k := i * 70) cY rfl (by decide) (by show i * 70 + 70 ≤ _; rw [p.len]; omega)
  have e' : (cells.drop (i * 70)).take 70 = aK vs[i] sv := e
  exact e' ▸ this
theorem XR (Q : dI) (ks : List Kf) (v w : a9) (vs ws : List Ver) (cv cw : List a9) (D : Nat → Prop) (h0 : Hp) (n0 : Nat) (hlen : vs.length = ws.length) (hc : vs.length ≤ 10000000) (hv : Rds h0 70 v vs.length cv) (hw : Rds h0 70 w ws.length cw) (pv : Vs h0 D cv vs) (pw : Vs h0 D cw ws) (hvn : ∀ j, aP v = some j → j < n0) (hwn : ∀ j, aP w = some j → j < n0) (hD : ∀ j, D j → j < n0)
    (hT : ∀ (h : Hp) (n : Nat) (x5 x6 x11 x15 x28 : a9), eqL vs ws = true → n0 ≤ n → aY h n → Old h0 h n0 → cV env 35 none Q ks (.exit 0) (v :: w :: a9.aA :: a9.aA :: .bool false :: x5 :: x6 :: a9.aA :: a9.aA :: a9.aA :: a9.aA :: x11 :: a9.aA :: a9.aA :: a9.aA :: x15 :: a9.aA :: a9.aA :: a9.aA :: a9.aA :: a9.aA :: a9.aA :: a9.aA :: a9.aA :: a9.aA :: a9.aA :: a9.aA :: a9.aA :: x28 :: []) h n)
    (hF : ∀ (h : Hp) (n : Nat) (x5 x6 x11 x15 x28 : a9), eqL vs ws = false → n0 ≤ n → aY h n → Old h0 h n0 → cV env 35 none Q ks .ret (v :: w :: a9.aA :: a9.aA :: .bool false :: x5 :: x6 :: a9.aA :: a9.aA :: a9.aA :: a9.aA :: x11 :: a9.aA :: a9.aA :: a9.aA :: x15 :: a9.aA :: a9.aA :: a9.aA :: a9.aA :: a9.aA :: a9.aA :: a9.aA :: a9.aA :: a9.aA :: a9.aA :: a9.aA :: a9.aA :: x28 :: []) h n) :
    ∀ (m i : Nat) (h : Hp) (n : Nat) (x6 x11 x15 x28 : a9), i + m = vs.length → eqL (vs.drop i) (ws.drop i) = eqL vs ws → n0 ≤ n → aY h n → Old h0 h n0 → Run env 35 none Q (.loop GG) ks (v :: w :: a9.aA :: a9.aA :: .bool false :: .int .i64 (i : Nat) :: x6 :: a9.aA :: a9.aA :: a9.aA :: a9.aA :: x11 :: a9.aA :: a9.aA :: a9.aA :: x15 :: a9.aA :: a9.aA :: a9.aA :: a9.aA :: a9.aA :: a9.aA :: a9.aA :: a9.aA :: a9.aA :: a9.aA :: a9.aA :: a9.aA :: x28 :: []) h n := by
  intro m
  induction m with
  | zero =>
    intro i h n x6 x11 x15 x28 hi he hn hf ho
    rw [bO]
    have hv' := hv.aM (h' := h) (fun j q => ho j (hvn j q))
    have hcc : ¬ (((i : Nat) : Int) < ((vs.length : Nat) : Int)) := by omega
    rw [List.drop_eq_nil_of_le (by omega), List.drop_eq_nil_of_le (by omega)] at he
    simp only [GG, bC, Try.f35, Option.getD_some, fgr, builtin, bor, List.getD_cons_zero, hv'.cA u43, hcc, gE]
    exact hT h n _ _ _ _ _ he.symm hn hf ho
  | succ m ih =>
    intro i h n x6 x11 x15 x28 hi he hn hf ho
    rw [bO]
    have hv' := hv.aM (h' := h) (fun j q => ho j (hvn j q))
    have hw' := hw.aM (h' := h) (fun j q => ho j (hwn j q))
    have pv' := pv.mono (D' := D) (fun j q => q) (fun j q => ho j (hD j q))
    have pw' := pw.mono (D' := D) (fun j q => q) (fun j q => ho j (hD j q))
    have hcc : (((i : Nat) : Int) < ((vs.length : Nat) : Int)) := by omega
    have i1 : i < vs.length := by omega
    have i2 : i < ws.length := by omega
    obtain ⟨sv, ld1, b1, k1, d1⟩ := D7 pv' hv' i1 (n := n)
    obtain ⟨sw, ld2, b2, k2, d2⟩ := D7 pw' hw' i2 (n := n)
    have w1 : IntKind.i64.wrap (((i : Nat) : Int) + 1) = ((i + 1 : Nat) : Int) := by rw [w64 (by omega) (by omega)]; omega
    have e1 : vs.drop i = vs[i] :: vs.drop (i + 1) := (List.getElem_cons_drop i1).symm
    have e2 : ws.drop i = ws[i] :: ws.drop (i + 1) := (List.getElem_cons_drop i2).symm
    rw [e1, e2] at he
    simp only [eqL] at he
    simp only [GG, bC, Try.f35, Option.getD_some, fgr, builtin, bor, List.getD_cons_zero, hv'.cA u43, hcc, gE]
    refine bW ⟨rfl, ?_⟩
    simp only [Nat.reduceAdd, gE]
    rw [aW (hv'.idx u43 LL rfl i1)]
    simp only [Nat.reduceAdd, gE]
    rw [aW ld1]
    simp only [Nat.reduceAdd, gE]
    rw [aW (hw'.idx u43 LL rfl i2)]
    simp only [Nat.reduceAdd, gE]
    rw [aW ld2]
    simp only [hkr, Nat.reduceAdd, gE]
    refine cU hf (f42 vs[i] ws[i] sv sw k1 k2 h n b1 b2 (fun j q => by have := hD j (d1 j q); omega) (fun j q => by have := hD j (d2 j q); omega) hf) fun v6 h6 n6 r6 w6 hn6 f6 ⟨e6, o6⟩ => ?_
    subst e6
    have ho6 : Old h0 h6 n0 := fun j hj => (o6 j (by omega)).trans (ho j hj)
    simp only [fgr, unOp, Nat.reduceAdd, gE]
    refine ⟨(by (try simp (disch := first | assumption | omega) only [cJ, gF]); repeat' (first | rfl | exact (Bool.or_eq_true _ _).mpr (.inr rfl) | refine (Bool.and_eq_true _ _).mpr ⟨?_, ?_⟩)), ?_⟩
    cases hq : wM vs[i] ws[i] with
    | false =>
      rw [hq, Bool.false_and] at he
      simp only [fgr, gE]
      exact hF h6 n6 _ _ _ _ _ he.symm (by omega) f6 ho6
    | true =>
      rw [hq, Bool.true_and] at he
      simp only [fgr, bor, bZ, w1, gE]
      exact ih (i + 1) h6 n6 _ _ _ _ (by omega) he (by omega) f6 ho6
theorem f35 (v w : a9) (vs ws : List Ver) (cv cw : List a9) (D : Nat → Prop) (h : Hp) (n : Nat) (hc : vs.length ≤ 10000000) (hv : Rds h 70 v vs.length cv) (hw : Rds h 70 w ws.length cw) (pv : Vs h D cv vs) (pw : Vs h D cw ws) (hvn : ∀ j, aP v = some j → j < n) (hwn : ∀ j, aP w = some j → j < n) (hD : ∀ j, D j → j < n) (hf : aY h n) :
    Wp (bH env (aV env) 35 [v, w]) h n fun v' h' n' => v' = .bool (eqL vs ws) ∧ Old h h' n := by
  refine aU aO2 aC4 ?_
  by_cases c : vs.length = ws.length
  · have cc : (((vs.length : Nat) : Int) = ((ws.length : Nat) : Int)) = True := by simp; omega
    simp only [U0, Try.f35, Option.getD_some, List.replicate, fgr, builtin, bor, Nat.reduceAdd, Nat.reduceSub, hv.cA u43, hw.cA u43, cc, gE]
    refine XR _ _ v w vs ws cv cw D h n c hc hv hw pv pw hvn hwn hD ?_ ?_ vs.length 0 h n _ _ _ _ (by omega) rfl (Nat.le_refl _) hf (Old.refl _ _)
    · intro h1 n1 x5 x6 x11 x15 x28 he hn hf1 ho
      simp only [fgr, gE]
      exact ⟨by rw [he], ho⟩
    · intro h1 n1 x5 x6 x11 x15 x28 he hn hf1 ho
      simp only [bI, nth, true_and]
      exact ⟨by rw [he], ho⟩
  · have cc : (((vs.length : Nat) : Int) = ((ws.length : Nat) : Int)) = False := by simp; omega
    simp only [U0, Try.f35, Option.getD_some, List.replicate, fgr, builtin, bor, Nat.reduceAdd, Nat.reduceSub, hv.cA u43, hw.cA u43, cc, gE]
    exact ⟨by rw [J1 _ _ c], Old.refl _ _⟩
theorem X7 (o : Bool) (L : List Ver) (v : Ver) : pos o L v ≤ L.length := List.countP_le_length
theorem oE {o : Bool} {L : List Ver} (r : cQ o L) (v : Ver) : Pos o L v (pos o L v) := by
  induction L with
  | nil => exact ⟨Nat.le_refl _, fun k hk => absurd hk (Nat.not_lt_zero _), fun k hk => absurd hk (Nat.not_lt_zero _)⟩
  | cons a L ih =>
    have r' : cQ o L := (List.pairwise_cons.1 r).2
    have ra := (List.pairwise_cons.1 r).1
    have i := ih r'
    by_cases c : iD o a v < 0
    · have e : pos o (a :: L) v = pos o L v + 1 := by unfold pos; rw [List.countP_cons, if_pos (decide_eq_true c)]
      rw [e]
      refine ⟨by have := i.le; simp; omega, fun k hk h => ?_, fun k hk h => ?_⟩
      · cases k with
        | zero => exact c
        | succ k => exact i.lo k (by simpa using hk) (by omega)
      · cases k with
        | zero => omega
        | succ k => exact i.hi k (by simpa using hk) (by omega)
    · have all : ∀ b ∈ L, ¬ iD o b v < 0 := fun b hb h => c ((BP o).lt _ _ _ (ra b hb) h)
      have e : pos o (a :: L) v = 0 := by
        unfold pos
        rw [List.countP_eq_zero]
        intro b hb
        rcases List.mem_cons.1 hb with rfl | hb
        · simpa using c
        · simpa using all b hb
      rw [e]
      refine ⟨Nat.zero_le _, fun k hk h => absurd h (Nat.not_lt_zero _), fun k hk h => ?_⟩
      cases k with
      | zero => exact c
      | succ k => exact all _ (List.getElem_mem _)
theorem NV {L : List Ver} {w v : Ver} (r : cQ false L) (hw : w ∈ L) (he : eR w v = 0) : pos false (kX L w) v = pos false L w := by
  obtain ⟨hp, hpw⟩ := oF r (oE r w) hw
  have pm := (kE hp).countP_eq (fun u => decide (iD false u w < 0))
  have e : ∀ u : Ver, iD false u v = iD false u w := fun u => (pV.eqr (d := u) he).symm
  show (iI L (pos false L w)).countP (fun u => decide (iD false u v < 0)) = _
  simp only [e]
  rw [List.countP_cons, if_neg (by
    rw [hpw]
    have := pV.refl w
    simp only [decide_eq_true_eq]
    show ¬ eR w w < 0
    omega)] at pm
  exact pm.symm
theorem NR {L : List Ver} {w v : Ver} (r : cQ false L) (hw : w ∈ L) (he : eR w v = 0) : nG (kX L w) v = L.set (pos false L w) v := by
  obtain ⟨hp, hpw⟩ := oF r (oE r w) hw
  have ht : (L.take (pos false L w)).length = pos false L w := by rw [List.length_take]; omega
  unfold nG
  rw [NV r hw he]
  unfold kX fK iI
  rw [List.take_left' ht, List.drop_left' ht, List.set_eq_take_append_cons_drop, if_pos hp]
noncomputable def L43 (tm : List a9) : kS := { state := .ready, pending := none, fn := 43, tmps := tm, params := [19], assign := NN, body := NI }
def iN (aJ : List UInt8) : Ver := ⟨List.replicate 32 0, 0, 0, 0, aJ, false, 0, List.replicate 32 0⟩
theorem TR (aJ : List UInt8) : (iN aJ).Ok := ⟨rfl, rfl⟩
def z35 : List a9 := List.replicate 32 (.int .u8 0) ++ [.int .u32 0, .int .i64 0, .int .i64 0]
def z34 : List a9 := [.bool false, .int .i64 0] ++ List.replicate 32 (.int .u8 0)
theorem au8 : eK.i.zero.cells = z35 ++ [.aN] ++ z34 := rfl
theorem R4 {sv : a9} {aJ : List UInt8} (hs : sv.cells = [sv] ∧ bB sv = true ∧ dD sv = false) : build env 31 [(3, sv)] = M.pure (.agg (aK (iN aJ) sv)) := by
  have e1 : ∀ pl : Nat → Option (Nat × Nat), pl 3 = some (35, 1) → fill pl eK.i.zero.cells [(3, sv)] = some (aK (iN aJ) sv) := fun pl p0 => by
    rw [au8, gW p0 rfl rfl (by rw [hs.1]; rfl) hs.2.2, hs.1]
    simp only [fill]
    congr 1
  have e2 : build env 31 [(3, sv)] = (fV "build" (fill ([(0, 33), (33, 1), (34, 1), (35, 1), (36, 1), (37, 1), (38, 32)][·]?) eK.i.zero.cells [(3, sv)])).bind fun cs => M.pure (.agg cs) := rfl
  rw [e2, e1 _ rfl]
  rfl
def sM (S : List Ver) (p k : Nat) (z : Int) : List Ver := ((S.take k).drop p).filter fun v => dW v z
theorem MD (S : List Ver) (p : Nat) (z : Int) : sM S p p z = [] := by
  unfold sM
  rw [List.drop_eq_nil_of_le (by rw [List.length_take]; omega)]; rfl
theorem BH {L : List Ver} {p k : Nat} (hp : p ≤ k) (hk : k < L.length) (z : Int) : sM L p (k + 1) z = if dW L[k] z then sM L p k z ++ [L[k]] else sM L p k z := by
  unfold sM
  rw [List.take_add_one, List.getElem?_eq_getElem hk, List.drop_append_of_le_length (by rw [List.length_take]; omega), List.filter_append]
  by_cases c : dW L[k] z = true
  · rw [if_pos c]; simp [c]
  · rw [if_neg c]; simp [c]
theorem SP (L : List Ver) (p k : Nat) (z : Int) : (sM L p k z).length ≤ L.length := by
  unfold sM
  have h1 := List.length_filter_le (fun v => dW v z) ((L.take k).drop p)
  have h2 : ((L.take k).drop p).length ≤ L.length := by rw [List.length_drop, List.length_take]; omega
  omega
structure P43 (H7 : Hp) (n : Nat) (S : List Ver) (aJ : List UInt8) (z : Int) (nS k : Nat) (h1 : Hp) (n1 : Nat) : Prop where
  fr : aY h1 n1
  n7 : n + 1 + 1 + 1 + 1 + 1 + 1 + 1 ≤ nS
  ns : nS ≤ n1
  kp : ∀ j, j < n + 1 + 1 + 1 + 1 + 1 + 1 + 1 → j ≠ n + 1 + 1 → j ≠ n + 1 + 1 + 1 + 1 + 1 + 1 → h1 j = H7 j
  cl : ∃ acc cells, h1 (n + 1 + 1) = some (.row (.l [acc]) 43) ∧ Lst h1 31 70 acc (sM S (pos true S (iN aJ)) k z).length cells ∧ Vs h1 (fun j => nS ≤ j ∧ j < n1 ∧ aP acc ≠ some j) cells (sM S (pos true S (iN aJ)) k z) ∧ ∀ j, aP acc = some j → nS ≤ j
  sm : ∀ i (hi : i < S.length), pos true S (iN aJ) ≤ i → i < k → S[i].aJ = aJ
theorem f43 (x : Nat) (sv : a9) (aJ : List UInt8) (z : Int) (L : List Ver) (D M : Nat → Prop) (h : Hp) (n : Nat) (hs : Ix h n D M x L) (hb : Bytes h sv aJ) (hsn : ∀ j, aP sv = some j → j < n) (hc : L.length ≤ 1000000) (hf : aY h n) :
    Wp (bH env (aV env) 43 [.ptr x 0, sv, .int .i64 z]) h n fun v' h' n' => Old h h' n ∧ ∃ S k, cQ true S ∧ L.Perm S ∧ pos true S (iN aJ) ≤ k ∧ (∀ i (hi : i < S.length), pos true S (iN aJ) ≤ i → i < k → S[i].aJ = aJ) ∧ (∀ hk : k < S.length, S[k].aJ ≠ aJ) ∧ VL h' n n' v' (sM S (pos true S (iN aJ)) k z) := by
  obtain ⟨⟨S, s0, rS, perm⟩, rL, ok⟩ := hs
  obtain ⟨vl, vs, xl, xs, iv, mx, ml, ms, mn⟩ := s0
  refine aU aN4 aB6 ?_
  simp only [Z7, Try.f43, Option.getD_some, List.replicate, Nat.reduceAdd, Nat.reduceSub, gE]
  refine cG (v := sv) uY hb.kind.2.2 hf fun H1 r1 o1 f1 => ?_
  rw [hb.kind.1] at r1
  simp only [gE]
  refine cG (v := .int .i64 z) ti3 rfl f1 fun H2 r2 o2 f2 => ?_
  simp only [tyr, fgr, hkr, cel, alloc, oS, newRow, gE]
  obtain ⟨H3, hH3⟩ : ∃ H3, H3 = upd H2 (n + 1 + 1) (some (Blk.row (bG.l [a9.aN]) 43)) := ⟨_, rfl⟩
  rw [← hH3]
  have f3 : aY H3 (n + 1 + 1 + 1) := by rw [hH3]; exact f2.new
  have o3 : ∀ j, j ≠ n + 1 + 1 → H3 j = H2 j := fun j hj => by rw [hH3, aH _ _ hj]
  have r3 : H3 (n + 1 + 1) = some (Blk.row (bG.l [a9.aN]) 43) := by rw [hH3, aO]
  clear hH3
  have old3 : Old h H3 n := fun j hj => by rw [o3 j (by omega), o2 j (by omega), o1 j (by omega)]
  have r1' : Row H3 n [sv] := (r1.aM (o2 n (by omega))).aM (o3 n (by omega))
  have r2' : Row H3 (n + 1) [.int .i64 z] := r2.aM (o3 (n + 1) (by omega))
  refine dA (f73 x _ true H3 _ (iv.row.aM (old3 x iv.xn)) rfl) ?_
  simp only [bI, fgr, opd, bP, put, nth, aF, Bool.not_true]
  refine bW ⟨rfl, ?_⟩
  simp only [tyr, aR, Nat.reduceAdd, gE]
  rw [aW (r1'.one (off := 0) rfl uY rfl)]
  simp only [cel, alloc, Nat.reduceAdd, R4 (aJ := aJ) hb.kind, gE]
  refine jO (xs := aK (iN aJ) sv) cY f3 fun H4 r4 o4 f4 => ?_
  simp only [hkr, Nat.reduceAdd, gE]
  refine cU f4 (f88 x 3 (n + 1 + 1 + 1) H4 _) fun v3 h3 n3 r3w w3 hn3 f5 ⟨e3, eh3, en3⟩ => ?_
  subst e3; subst en3
  simp only [mV, bI, fgr, bP, put, aF, Nat.reduceAdd]
  refine ⟨(by (try simp (disch := first | assumption | omega) only [cJ, gF]); repeat' (first | rfl | exact (Bool.or_eq_true _ _).mpr (.inr rfl) | refine (Bool.and_eq_true _ _).mpr ⟨?_, ?_⟩)), ?_⟩
  have row4 : Row h3 (n + 1 + 1 + 1 + 1) [.ptr x 3] := by rw [eh3]; exact (Row.new _ _ _ _).upd (by omega)
  have row5 : Row h3 (n + 1 + 1 + 1 + 1 + 1) [.ptr (n + 1 + 1 + 1) 0] := by rw [eh3]; exact Row.new _ _ _ _
  have o5 : ∀ j, j < n + 1 + 1 + 1 + 1 → h3 j = H4 j := fun j hj => by rw [eh3, aH _ _ (by omega), aH _ _ (by omega)]
  clear eh3
  refine lD (g := 109) (first := []) (cap := [.ptr (n + 1 + 1 + 1 + 1) 0, .ptr (n + 1 + 1 + 1 + 1 + 1) 0]) rfl rfl ?_
  let TM : List a9 := (.ptr x 0 :: sv :: .int .i64 z :: a9.aA :: .ptr n 0 :: .ptr (n + 1) 0 :: .aN :: .ptr (n + 1 + 1) 0 :: undef :: a9.aA :: .bool false :: a9.aA :: a9.aA :: a9.aA :: a9.aA :: a9.aA :: a9.aA :: a9.aA :: .fn (.func 109) [] [.ptr (n + 1 + 1 + 1 + 1) 0, .ptr (n + 1 + 1 + 1 + 1 + 1) 0] :: undef :: a9.aA :: a9.aA :: a9.aA :: a9.aA :: a9.aA :: a9.aA :: undef :: a9.aA :: a9.aA :: a9.aA :: a9.aA :: undef :: a9.aA :: a9.aA :: a9.aA :: a9.aA :: a9.aA :: a9.aA :: a9.aA :: a9.aA :: [])
  obtain ⟨H7, hH7⟩ : ∃ H7, H7 = upd h3 (n + 1 + 1 + 1 + 1 + 1 + 1) (some (Blk.loop (L43 TM))) := ⟨_, rfl⟩
  show Wp (fX env (aV env) 109 [a9.fn (Fn.yield (n + 1 + 1 + 1 + 1 + 1 + 1)) [] [], a9.ptr (n + 1 + 1 + 1 + 1) 0, a9.ptr (n + 1 + 1 + 1 + 1 + 1) 0]) (upd h3 (n + 1 + 1 + 1 + 1 + 1 + 1) (some (Blk.loop (L43 TM)))) _ _
  rw [V3, ← hH7]
  have f7 : aY H7 (n + 1 + 1 + 1 + 1 + 1 + 1 + 1) := by rw [hH7]; exact f5.new
  have o7 : ∀ j, j ≠ n + 1 + 1 + 1 + 1 + 1 + 1 → H7 j = h3 j := fun j hj => by rw [hH7, aH _ _ hj]
  have g6 : H7 (n + 1 + 1 + 1 + 1 + 1 + 1) = some (.loop (L43 TM)) := by rw [hH7, aO]
  clear hH7
  have old7 : Old h H7 n := fun j hj => by rw [o7 j (by omega), o5 j (by omega), o4 j (by omega), old3 j hj]
  have g0 : Row H7 n [sv] := ((r1'.aM (o4 n (by omega))).aM (o5 n (by omega))).aM (o7 n (by omega))
  have g1 : Row H7 (n + 1) [.int .i64 z] := ((r2'.aM (o4 (n + 1) (by omega))).aM (o5 (n + 1) (by omega))).aM (o7 (n + 1) (by omega))
  have g2 : H7 (n + 1 + 1) = some (Blk.row (bG.l [a9.aN]) 43) := by rw [o7 _ (by omega), o5 _ (by omega), o4 _ (by omega)]; exact r3
  have g3 : Row H7 (n + 1 + 1 + 1) (aK (iN aJ) sv) := by
    refine Row.aM (h := H4) ⟨_, r4⟩ ?_
    rw [o7 _ (by omega), o5 _ (by omega)]
  have lt : ∀ (j : Nat), j < n → ∀ (h1 : Hp), (∀ j, j < n + 1 + 1 + 1 + 1 + 1 + 1 + 1 → j ≠ n + 1 + 1 → j ≠ n + 1 + 1 + 1 + 1 + 1 + 1 → h1 j = H7 j) → h1 j = H7 j := fun j hj h1 hk => hk j (by omega) (by omega) (by omega)
  have hS : S.length = L.length := perm.length_eq.symm
  have kt : AtN H7 (n + 1 + 1 + 1 + 1 + 1 + 1 + 1) (n + 1 + 1 + 1) sv (iN aJ) := ⟨⟨g3, hb.aM (fun j q => old7 j (hsn j q)), TR _⟩, by omega, fun j q => by have := hsn j q; omega⟩
  have sl7 := iv.s.aM (h' := H7) (fun j q => old7 j (mn j (ms j q)).1)
  have sp7 := iv.sp.mono (h' := H7) (D' := D) (fun j q => q) (fun j q => old7 j (iv.dn j q))
  have hro : wG vs := by
    have q := iv.s
    generalize S.length = len at q
    cases q with
    | nil => trivial
    | zero => exact Nat.le_refl _
    | sl => trivial
  refine cP ((f109 true (.fn (.yield (n + 1 + 1 + 1 + 1 + 1 + 1)) [] []) (n + 1 + 1 + 1 + 1) (n + 1 + 1 + 1 + 1 + 1) x 3 _ vs (n + 1 + 1 + 1) sv (iN aJ) S.length xs S D
    (fun k h1 n1 => ∃ nS, P43 H7 n S aJ z nS k h1 n1 ∧ h1 (n + 1 + 1 + 1 + 1 + 1 + 1) = some (.loop (L43 TM)))
    (fun h1 n1 => ∃ l nS k, h1 (n + 1 + 1 + 1 + 1 + 1 + 1) = some (.loop l) ∧ l.state = .done ∧ l.pending = some (.exit 0) ∧ pos true S (iN aJ) ≤ k ∧ P43 H7 n S aJ z nS k h1 n1 ∧ ∀ hk : k < S.length, S[k].aJ ≠ aJ)
    H7 (n + 1 + 1 + 1 + 1 + 1 + 1 + 1) (row4.aM (o7 _ (by omega))) (row5.aM (o7 _ (by omega))) (iv.row.aM (old7 x iv.xn)) rfl rfl (by omega) sl7.rds hro (fun j q => by have := (mn j (ms j q)).1; omega) sp7 (fun j q => by have := iv.dn j q; omega) kt (rS.mono _) f7 (by omega) (by have := iv.xn; omega) ?_ ?_ ?_).yB f7) ?_
  · rintro k h1 n1 ⟨nS, p, _⟩
    exact ⟨sl7.rds.aM (fun j q => lt j (mn j (ms j q)).1 h1 p.kp), sp7.mono (fun j q => q) (fun j q => lt j (iv.dn j q) h1 p.kp), p.fr⟩
  · intro p h' n' hpos hn' hf' ho'
    rw [hpos.eq]
    exact ⟨n', ⟨hf', by omega, Nat.le_refl _, fun j hj _ _ => ho' j hj, ⟨.aN, [], (ho' _ (by omega)).trans g2, by rw [MD]; exact .nil, by rw [MD]; exact Vs.nil _ _, fun j q => by cases q⟩, fun i hi h1 h2 => by omega⟩, (ho' _ (by omega)).trans g6⟩
  · rintro p k hk id sv2 h1 n1 hpos hpk ⟨nS, pp, hlo⟩ hx a d1 d2
    have hpk' : pos true S (iN aJ) ≤ k := by rw [← hpos.eq]; exact hpk
    have hidn := iv.dn id d1
    have h77 := pp.n7
    have hns := pp.ns
    refine nA hlo rfl rfl ?_
    simp only [NN, List.getD_cons_zero, lT, List.zip_cons_cons, List.zip_nil_left, L43, TM, cE, Try.f43, Option.getD_some, fgr, gE]
    refine ⟨_, hlo, rfl, ?_⟩
    obtain ⟨h2, hh2⟩ : ∃ h2, h2 = upd h1 (n + 1 + 1 + 1 + 1 + 1 + 1) (some (Blk.loop { L43 TM with state := .busy })) := ⟨_, rfl⟩
    have ho2 : ∀ j, j ≠ n + 1 + 1 + 1 + 1 + 1 + 1 → h2 j = h1 j := fun j hj => by rw [hh2, aH _ _ hj]
    have hlo2 : h2 (n + 1 + 1 + 1 + 1 + 1 + 1) = some (.loop { L43 TM with state := .busy }) := by rw [hh2, aO]
    have hf2 : aY h2 n1 := by rw [hh2]; exact pp.fr.upd (by omega)
    show Run env 43 _ _ _ _ _ (upd h1 (n + 1 + 1 + 1 + 1 + 1 + 1) (some (Blk.loop { L43 TM with state := .busy }))) n1
    rw [← hh2]
    clear hh2
    have a2 : At h2 id sv2 S[k] := a.aM (ho2 id (by omega)) (fun j q => ho2 j (by have := iv.dn j (d2 j q); omega))
    have to7 : ∀ j, j < n + 1 + 1 → h2 j = H7 j := fun j hj => (ho2 j (by omega)).trans (pp.kp j (by omega) (by omega) (by omega))
    have rs : Row h2 n [sv] := g0.aM (to7 n (by omega))
    have rz : Row h2 (n + 1) [.int .i64 z] := g1.aM (to7 (n + 1) (by omega))
    have bs : Bytes h2 sv aJ := hb.aM (fun j q => (to7 j (by have := hsn j q; omega)).trans (old7 j (hsn j q)))
    obtain ⟨acc, cells, q1, q2, q3, q4⟩ := pp.cl
    simp only [NI, List.getD_cons_zero, cE, Try.f43, Option.getD_some, bI, fgr, List.nil_append, List.append_nil]
    refine bW ⟨rfl, ?_⟩
    simp only [tyr, aR, Nat.reduceAdd, gE]
    rw [aW (gS a2.row a2.ok)]
    simp only [Nat.reduceAdd, gE]
    rw [aW (rs.one (off := 0) rfl uY rfl)]
    simp only [hkr, Nat.reduceAdd, gE]
    refine cU hf2 (f89 sv2 sv _ aJ h2 n1 a2.s bs) fun v6 h6 n6 r6 w6 hn6 f6' ⟨e6, e7, e8⟩ => ?_
    subst e6; subst e7; subst e8
    cases hq : (S[k].aJ == aJ) with
    | false =>
      simp only [fgr, unOp, Nat.reduceAdd, gE]
      refine ⟨(by (try simp (disch := first | assumption | omega) only [cJ, gF]); repeat' (first | rfl | exact (Bool.or_eq_true _ _).mpr (.inr rfl) | refine (Bool.and_eq_true _ _).mpr ⟨?_, ?_⟩)), _, hlo2, .inr ⟨.inl rfl, _, nS, k, aO _ _ _, rfl, rfl, hpk', ⟨hf2.upd (by omega), h77, hns, fun j hj h1' h2' => by rw [aH _ _ h2', ho2 j h2']; exact pp.kp j hj h1' h2', ⟨acc, cells, by rw [aH _ _ (by omega), ho2 _ (by omega)]; exact q1, q2.aM (fun j q => by rw [aH _ _ (by have := q4 j q; omega), ho2 _ (by have := q4 j q; omega)]), q3.mono (fun j q => q) (fun j q => by rw [aH _ _ (by omega), ho2 _ (by omega)]), q4⟩, pp.sm⟩, fun _ => beq_eq_false_iff_ne.1 hq⟩⟩
    | true =>
      simp only [fgr, unOp, Nat.reduceAdd, gE]
      refine ⟨(by (try simp (disch := first | assumption | omega) only [cJ, gF]); repeat' (first | rfl | exact (Bool.or_eq_true _ _).mpr (.inr rfl) | refine (Bool.and_eq_true _ _).mpr ⟨?_, ?_⟩)), ?_⟩
      have hsc : S[k].aJ = aJ := beq_iff_eq.1 hq
      have sm' : ∀ i (hi : i < S.length), pos true S (iN aJ) ≤ i → i < k + 1 → S[i].aJ = aJ := fun i hi h1' h2' => by
        by_cases e : i = k
        · subst e; exact hsc
        · exact pp.sm i hi h1' (by omega)
      refine bW ⟨rfl, ?_⟩
      simp only [Nat.reduceAdd, gE]
      rw [aW (dO a2.row a2.ok)]
      simp only [Nat.reduceAdd, gE]
      rw [aW (rz.one (off := 0) rfl ti3 rfl)]
      simp only [hkr, Nat.reduceAdd, gE]
      refine cU hf2 (f82 S[k] sv2 a2.ok z h6 n6 hf2) fun v7 h8 n8 r7 w7 hn8 f8 ⟨e7, o8⟩ => ?_
      subst e7
      have hlo8 : h8 (n + 1 + 1 + 1 + 1 + 1 + 1) = some (.loop { L43 TM with state := .busy }) := (o8 _ (by omega)).trans hlo2
      have keep8 : ∀ j, j < n6 → j ≠ n + 1 + 1 + 1 + 1 + 1 + 1 → h8 j = h1 j := fun j hj hne => (o8 j hj).trans (ho2 j hne)
      cases hth : dW S[k] z with
      | false =>
        simp only [mV, bI, fgr, opd, bP, put, nth, aF, Nat.reduceAdd]
        refine ⟨(by (try simp (disch := first | assumption | omega) only [cJ, gF]); repeat' (first | rfl | exact (Bool.or_eq_true _ _).mpr (.inr rfl) | refine (Bool.and_eq_true _ _).mpr ⟨?_, ?_⟩)), _, hlo8, .inl ⟨.inl rfl, nS, ⟨f8.upd (by omega), h77, by omega, fun j hj h1' h2' => by rw [aH _ _ h2', keep8 j (by omega) h2']; exact pp.kp j hj h1' h2', ⟨acc, cells, by rw [aH _ _ (by omega), keep8 _ (by omega) (by omega)]; exact q1, ?_, ?_, q4⟩, sm'⟩, aO _ _ _⟩⟩
        · rw [BH hpk' hk, hth]
          exact q2.aM (fun j q => by rw [aH _ _ (by have := q4 j q; omega), keep8 _ (q2.dL pp.fr q) (by have := q4 j q; omega)])
        · rw [BH hpk' hk, hth]
          exact q3.mono (fun j q => ⟨q.1, by omega, q.2.2⟩) (fun j q => by rw [aH _ _ (by omega), keep8 _ q.2.1 (by omega)])
      | true =>
        simp only [mV, bI, fgr, opd, bP, put, nth, aF, Nat.reduceAdd]
        refine ⟨(by (try simp (disch := first | assumption | omega) only [cJ, gF]); repeat' (first | rfl | exact (Bool.or_eq_true _ _).mpr (.inr rfl) | refine (Bool.and_eq_true _ _).mpr ⟨?_, ?_⟩)), ?_⟩
        have a8 : At h8 id sv2 S[k] := a2.aM (o8 id (by omega)) (fun j q => o8 j (by have := iv.dn j (d2 j q); omega))
        have cell : Row h8 (n + 1 + 1) [acc] := ⟨_, (keep8 _ (by omega) (by omega)).trans q1⟩
        refine bW ⟨rfl, ?_⟩
        simp only [gE]
        rw [aW (cell.one (off := 0) rfl pJ rfl)]
        simp only [Nat.reduceAdd, gE]
        rw [aW (dO a8.row a8.ok)]
        simp only [hkr, Nat.reduceAdd, gE]
        have fo8 : aY (only (fun j => decide (aP sv2 = some j)) h8) n8 := fun j hj => by
          unfold only
          split
          · exact f8 j hj
          · rfl
        refine vI (fun j => decide (aP sv2 = some j)) f8 (f77 S[k] sv2 a8.ok (only (fun j => decide (aP sv2 = some j)) h8) n8 (a8.s.aM fun j q => fS (decide_eq_true q)) (fun j q => by have := iv.dn j (d2 j q); omega) (ok _ (perm.mem_iff.2 (List.getElem_mem hk))).2 fo8) fun v9 h9 n9 r9 w9 hr9 hn9 f9 ⟨s', e9, b9, i9, o9⟩ hin hout hr hw => ?_
        subst e9
        have old9 : Old h8 h9 n8 := fun j hj => by
          by_cases q : aP sv2 = some j
          · rw [hin j (.inl (decide_eq_true q)), o9 j hj, fS (decide_eq_true q)]
          · exact hout j hj (decide_eq_false q)
        have b9' : Bytes h9 s' S[k].aJ := b9.aM (fun j q => hin j (.inr (i9 j q).1))
        simp only [Nat.reduceAdd, LB (aZ a8.ok.h a8.ok.b), gE]
        refine jO cY f9 fun H10 r10 o10 f10 => ?_
        simp only [builtin, Nat.reduceAdd, gE]
        have old10 : Old h8 H10 n8 := fun j hj => by rw [o10 j (by omega), old9 j hj]
        have accl : ∀ j, aP acc = some j → j < n6 := fun j q => q2.dL pp.fr q
        have acck : ∀ j, aP acc = some j → H10 j = h1 j := fun j q => by rw [old10 j (by have := accl j q; omega), keep8 j (accl j q) (by have := q4 j q; omega)]
        have tl := SP S (pos true S (iN aJ)) k z
        refine cU f10 (mR (i := eK.i) (e := 31) (Q1 := fun v' h' n' => n9 + 1 ≤ n' ∧ aY h' n' ∧ Lst h' 31 70 v' ((sM S (pos true S (iN aJ)) k z).length + 1) (cells ++ aK S[k] s') ∧ (aP v' = aP acc ∨ aP v' = some (n9 + 1) ∧ n9 + 1 < n') ∧ ∀ j, j < n9 + 1 → aP acc ≠ some j → h' j = H10 j) (q2.aM acck) (kY (cnt := 1) r10 (by rw [aZ a8.ok.h a8.ok.b]; rfl)) u43 u43 cY (c8 b9.kind.2.1) (by decide) (by show 2 * (_ + 1) * 128 ≤ _; omega) (by omega) f10 (fun v' h' n' a b c d e => ⟨a, b, c, d, e⟩)) fun v11 h11 n11 r11 w11 hn11 f11 ⟨_, _, l11, i11, o11⟩ => ?_
        have o111 : ∀ j, j < n8 → aP acc ≠ some j → j ≠ n + 1 + 1 + 1 + 1 + 1 + 1 → j < n6 → h11 j = h1 j := fun j a b c d => by rw [o11 j (by omega) b, old10 j a, keep8 j d c]
        have c11 : h11 (n + 1 + 1) = some (Blk.row (bG.l [acc]) 43) := (o111 _ (by omega) (fun q => by have := q4 _ q; omega) (by omega) (by omega)).trans q1
        have l11n : ∀ j, j < n9 + 1 → aP acc ≠ some j → aP v11 ≠ some j := fun j hj hn q => by
          rcases i11 with w | ⟨w, _⟩
          · rw [w] at q; exact hn q
          · rw [w] at q; injection q with q; omega
        have nw : n + 1 + 1 ∉ w9 := fun q => by have := iv.dn _ (d2 _ (of_decide_eq_true (hw _ q))); omega
        have nr : n + 1 + 1 ∉ r9 := fun q => by have := iv.dn _ (d2 _ (of_decide_eq_true (hr _ q))); omega
        have v11k := l11.rds.kind
        have v11n : ∀ j, aP v11 = some j → nS ≤ j := fun j q => by
          rcases i11 with w | ⟨w, _⟩
          · rw [w] at q; exact q4 j q
          · rw [w] at q; injection q with q; omega
        simp only [Nat.reduceAdd, gE]
        refine jN (Row.write (v := v11) c11 pJ (by rw [v11k.1]; rfl) (by show 0 + 1 ≤ 1; omega) (by rw [v11k.1]; simp [v11k.2.1])) ?_
        rw [v11k.1, show bV [acc] 0 [v11] = [v11] from rfl]
        simp only [mV, bI, fgr, bP, aF, Nat.reduceAdd]
        refine ⟨(by (try simp (disch := first | assumption | omega) only [cJ, gF]); repeat' (first | rfl | exact (Bool.or_eq_true _ _).mpr (.inr rfl) | refine (Bool.and_eq_true _ _).mpr ⟨?_, ?_⟩)), _, (aH _ _ (by omega)).trans ((o11 _ (by omega) (fun q => by have := q4 _ q; omega)).trans ((old10 _ (by omega)).trans hlo8)), .inl ⟨.inl rfl, nS, ⟨(f11.upd (by omega)).upd (by omega), h77, by omega, fun j hj h1' h2' => ?_, ⟨v11, cells ++ aK S[k] s', by rw [aH _ _ (by omega), aO], ?_, ?_, v11n⟩, sm'⟩, aO _ _ _⟩⟩
        · rw [aH _ _ h2', aH _ _ h1', o111 j (by omega) (fun q => by have := q4 j q; omega) h2' (by omega)]; exact pp.kp j hj h1' h2'
        · rw [BH hpk' hk, hth, if_pos rfl, List.length_append]
          exact l11.aM (fun j q => by rw [aH _ _ (by have := v11n j q; omega), aH _ _ (by have := v11n j q; omega)])
        · rw [BH hpk' hk, hth, if_pos rfl]
          have ne2 : ∀ j, nS ≤ j → ∀ (H : Hp) b b2, upd (upd H (n + 1 + 1) b) (n + 1 + 1 + 1 + 1 + 1 + 1) b2 j = H j := fun j hj H b b2 => by rw [aH _ _ (by omega), aH _ _ (by omega)]
          refine (q3.mono (fun j q => ⟨q.1, by omega, l11n j (by omega) q.2.2⟩) (fun j q => by rw [ne2 j q.1, o111 j (by omega) q.2.2 (by omega) q.2.1])).zH (b9'.aM fun j q => ?_) a8.ok (fun j q => ⟨by have := i9 j q; omega, by have := i9 j q; omega, l11n j (by have := i9 j q; omega) (fun w => by have := accl j w; have := i9 j q; omega)⟩)
          rw [ne2 j (by have := i9 j q; omega), o11 j (by have := i9 j q; omega) (fun w => by have := accl j w; have := i9 j q; omega), o10 j (by have := i9 j q; omega)]
  · rintro v5 h5 n5 ⟨⟨e5, hh⟩, hn5, f5'⟩
    have fin : ∀ (lo : kS) (nS k : Nat), pos true S (iN aJ) ≤ k → P43 H7 n S aJ z nS k h5 n5 → (∀ hk : k < S.length, S[k].aJ ≠ aJ) →
        ∃ acc, Row (upd h5 (n + 1 + 1 + 1 + 1 + 1 + 1) (some (.loop lo))) (n + 1 + 1) [acc] ∧ Old h (upd h5 (n + 1 + 1 + 1 + 1 + 1 + 1) (some (.loop lo))) n ∧ ∃ S k, cQ true S ∧ L.Perm S ∧ pos true S (iN aJ) ≤ k ∧ (∀ i (hi : i < S.length), pos true S (iN aJ) ≤ i → i < k → S[i].aJ = aJ) ∧ (∀ hk : k < S.length, S[k].aJ ≠ aJ) ∧ VL (upd h5 (n + 1 + 1 + 1 + 1 + 1 + 1) (some (.loop lo))) n n5 acc (sM S (pos true S (iN aJ)) k z) := by
      intro lo nS k hk1 p hk3
      obtain ⟨acc, cells, c1, c2, c3, c4⟩ := p.cl
      have h7 := p.n7
      refine ⟨acc, ⟨_, (aH _ _ (by omega)).trans c1⟩, fun j hj => ?_, S, k, rS, perm, hk1, p.sm, hk3, cells, c2.aM (fun j q => aH _ _ (by have := c4 j q; omega)), c3.mono (fun j q => ⟨by omega, q.2.1, q.2.2⟩) (fun j q => aH _ _ (by omega)), fun j q => ⟨by have := c4 j q; omega, c2.dL p.fr q⟩⟩
      rw [aH _ _ (by omega), lt j hj h5 p.kp, old7 j hj]
    rcases hh with ⟨nS, p, hlo⟩ | ⟨l, nS, k, hlo, hst, hpe, hk1, p, hk3⟩
    · refine ⟨_, hlo, (fun q => by cases q), .normal, rfl, ?_⟩
      obtain ⟨acc, hrow, res⟩ := fin { L43 TM with state := .exhausted } nS S.length (X7 _ _ _) p (fun hk => absurd hk (Nat.lt_irrefl _))
      simp only [gE]
      rw [aE (hrow.one (off := 0) rfl pJ rfl)]
      simp only [fgr, gE]
      exact res
    · refine ⟨_, hlo, (fun q => by rw [hst] at q; cases q), .exit 0, by rw [hpe], ?_⟩
      obtain ⟨acc, hrow, res⟩ := fin { l with state := .exhausted } nS k hk1 p hk3
      simp only [gE]
      rw [aE (hrow.one (off := 0) rfl pJ rfl)]
      simp only [fgr, gE]
      exact res
theorem xL {o : Bool} : ∀ {A B : List Ver}, cQ o A → cQ o B → A.Perm B → A = B
  | [], B, _, _, h => (List.nil_perm.1 h).symm
  | a :: A, [], _, _, h => absurd (List.perm_nil.1 h) (by simp)
  | a :: A, b :: B, ra, rb, h => by
    have ha := List.pairwise_cons.1 ra
    have hb := List.pairwise_cons.1 rb
    have e : a = b := by
      by_cases q : a = b
      · exact q
      · have h1 : a ∈ B := (List.mem_cons.1 (h.mem_iff.1 List.mem_cons_self)).resolve_left q
        have h2 : b ∈ A := (List.mem_cons.1 (h.mem_iff.2 List.mem_cons_self)).resolve_left (fun w => q w.symm)
        have c1 := ha.1 b h2
        have c2 := hb.1 a h1
        have := (BP o).pF a b
        omega
    subst e
    rw [xL ha.2 hb.2 ((List.perm_cons a).1 h)]
def mI (a b : Ver) : Int := qM a.aI a.pn b.aI b.pn
theorem XB : pG mI := (rC.on Ver.aI).or (tQ.on Ver.pn)
theorem lN {aI : List UInt8} {pn : Int} {v : Ver} : same aI pn v = true ↔ qM v.aI v.pn aI pn = 0 := by
  unfold same qM orI
  constructor
  · intro h
    simp only [Bool.and_eq_true, decide_eq_true_eq, beq_iff_eq] at h
    rw [h.1, h.2, if_pos (oT _)]
    exact rO.2 rfl
  · intro h
    split at h
    · rename_i q
      rw [B0 _ _ q, rO.1 h]
      simp
    · contradiction
def atV (L : List Ver) (aI : List UInt8) (pn z : Int) : Option Ver := (L.filter fun v => same aI pn v && dW v z).getLast?
def zX (v : Ver) : Prop := wL v = false ∧ 0 ≤ v.pn
theorem zX.made {v : Ver} (h : zX v) : 0 ≤ v.made := by
  have := h.1
  unfold wL at this
  simp only [Bool.or_eq_false_iff, decide_eq_false_iff_not] at this
  omega
theorem BQ {a b : Int} (h : orI a b < 0) : a ≤ 0 := by
  unfold orI at h
  split at h <;> omega
theorem O6 {a b : Int} (h : ¬ orI a b < 0) (hn : a ≠ 0) : 0 < a := by
  unfold orI at h
  rw [if_neg hn] at h
  omega
theorem ai6 {o : Ver → Ver → Int} (q : pG o) {a b t : Ver} (h1 : 0 < o a t) (h2 : o a b ≤ 0) : 0 < o b t := by
  have e1 := q.pF a t
  have e2 := q.pF b t
  rcases Int.lt_or_eq_of_le h2 with w | w
  · have := q.lt t a b (by omega) w; omega
  · have := q.eqr (d := t) w; omega
theorem yO {L : List Ver} {p k : Nat} (hpk : p ≤ k) (P th : Ver → Bool) (h1 : ∀ i (hi : i < L.length), i < p → P L[i] = false) (h2 : ∀ i (hi : i < L.length), p ≤ i → i < k → P L[i] = true) (h3 : ∀ i (hi : i < L.length), k ≤ i → P L[i] = false) :
    ((L.take k).drop p).filter th = L.filter fun v => P v && th v := by
  have e : L = L.take p ++ ((L.take k).drop p ++ L.drop k) := by
    rw [← List.append_assoc]
    have : L.take p = (L.take k).take p := by rw [List.take_take, Nat.min_eq_left hpk]
    rw [this, List.take_append_drop, List.take_append_drop]
  conv => rhs; rw [e]
  rw [List.filter_append, List.filter_append]
  have f1 : (L.take p).filter (fun v => P v && th v) = [] := by
    rw [List.filter_eq_nil_iff]
    intro a ha
    obtain ⟨i, hi, rfl⟩ := List.mem_iff_getElem.1 ha
    rw [List.length_take] at hi
    rw [List.getElem_take, h1 i (by omega) (by omega)]
    simp
  have f3 : (L.drop k).filter (fun v => P v && th v) = [] := by
    rw [List.filter_eq_nil_iff]
    intro a ha
    obtain ⟨i, hi, rfl⟩ := List.mem_iff_getElem.1 ha
    rw [List.length_drop] at hi
    rw [List.getElem_drop, h3 (k + i) (by omega) (by omega)]
    simp
  rw [f1, f3, List.append_nil, List.nil_append]
  refine List.filter_congr fun a ha => ?_
  obtain ⟨i, hi, rfl⟩ := List.mem_iff_getElem.1 ha
  rw [List.length_drop, List.length_take] at hi
  have q := h2 (p + i) (by omega) (by omega) (by omega)
  rw [List.getElem_drop, List.getElem_take, q, Bool.true_and]
theorem S8 {L : List Ver} {aI : List UInt8} {pn : Int} {k : Nat} (r : cQ false L) (g : ∀ v ∈ L, zX v) (hk : pos false L (key aI pn 0) ≤ k)
    (sm : ∀ i (hi : i < L.length), pos false L (key aI pn 0) ≤ i → i < k → same aI pn L[i] = true) (ne : ∀ hk : k < L.length, same aI pn L[k] = false) (th : Ver → Bool) :
    ((L.take k).drop (pos false L (key aI pn 0))).filter th = L.filter fun v => same aI pn v && th v := by
  have P := oE r (key aI pn 0)
  have nn : ∀ i (hi : i < L.length), pos false L (key aI pn 0) ≤ i → same aI pn L[i] = false → 0 < mI L[i] (key aI pn 0) := fun i hi h1 h2 =>
    O6 (P.hi i hi h1) fun q => by have w : same aI pn L[i] = true := lN.2 q; rw [w] at h2; cases h2
  refine yO hk _ _ (fun i hi h => ?_) sm (fun i hi h => ?_)
  · cases hs : same aI pn L[i] with
    | false => rfl
    | true =>
      have h0 := P.lo i hi h
      have h1 : qM L[i].aI L[i].pn aI pn = 0 := lN.1 hs
      have h2 : eR L[i] (key aI pn 0) = iO L[i].made 0 := by
        show orI (qM L[i].aI L[i].pn aI pn) _ = _
        rw [h1]; rfl
      have h3 := (g _ (List.getElem_mem hi)).made
      have h4 : eR L[i] (key aI pn 0) < 0 := h0
      rw [h2, uL] at h4
      omega
  · have hkl : k < L.length := by omega
    have h1 := nn k hkl hk (ne hkl)
    have h2 : 0 < mI L[i] (key aI pn 0) := by
      by_cases q : i = k
      · subst q; exact h1
      · exact ai6 XB h1 (BQ (r.at_ hkl hi (by omega)))
    cases hs : same aI pn L[i] with
    | false => rfl
    | true =>
      have : mI L[i] (key aI pn 0) = 0 := lN.1 hs
      omega
theorem au2 {L : List Ver} {aI : List UInt8} {pn z : Int} {k : Nat} (r : cQ false L) (g : ∀ v ∈ L, zX v) (hk : pos false L (key aI pn 0) ≤ k)
    (sm : ∀ i (hi : i < L.length), pos false L (key aI pn 0) ≤ i → i < k → same aI pn L[i] = true) (ne : ∀ hk : k < L.length, same aI pn L[k] = false) :
    fnd L (pos false L (key aI pn 0)) k z = atV L aI pn z := by
  unfold fnd atV
  rw [S8 r g hk sm ne]
theorem EY : ∀ (l : List UInt8), ¬ Lib.compareBytes l (List.replicate l.length 0) < 0
  | [] => by decide
  | a :: l => by
    rw [List.length_cons, List.replicate_succ]
    unfold Lib.compareBytes
    have h1 : ¬ a < 0 := by simp [UInt8.lt_iff_toNat_lt]
    rw [if_neg h1]
    split
    · omega
    · exact EY l
theorem aj0 {v : Ver} {aJ : List UInt8} (o : v.Ok) (g : zX v) (hs : v.aJ = aJ) : ¬ HD v (iN aJ) < 0 := by
  have e1 : HD v (iN aJ) = eR v (iN aJ) := by
    show orI (Lib.compareBytes v.aJ aJ) _ = _
    rw [hs, oT]; rfl
  rw [e1]
  have e2 : eR v (iN aJ) = orI (orI (Lib.compareBytes v.aI (List.replicate 32 0)) (iO v.pn 0)) (iO v.made 0) := rfl
  rw [e2]
  have z := EY v.aI
  rw [o.h] at z
  have m := g.made
  have p := g.2
  have n1 : ¬ iO v.pn 0 < 0 := by rw [uL]; omega
  have n2 : ¬ iO v.made 0 < 0 := by rw [uL]; omega
  unfold orI
  split
  · split
    · exact n2
    · exact n1
  · exact z
def ofV (L : List Ver) (aJ : List UInt8) (z : Int) : List Ver := L.filter fun v => (v.aJ == aJ) && dW v z
theorem of_eq {L S : List Ver} {aJ : List UInt8} {z : Int} {k : Nat} (rL : cQ false L) (rS : cQ true S) (perm : L.Perm S) (ok : ∀ v ∈ L, v.Ok) (g : ∀ v ∈ L, zX v) (hk : pos true S (iN aJ) ≤ k)
    (sm : ∀ i (hi : i < S.length), pos true S (iN aJ) ≤ i → i < k → S[i].aJ = aJ) (ne : ∀ hk : k < S.length, S[k].aJ ≠ aJ) :
    sM S (pos true S (iN aJ)) k z = ofV L aJ z := by
  have P := oE rS (iN aJ)
  have T7 : pG (fun a b : Ver => Lib.compareBytes a.aJ b.aJ) := rC.on Ver.aJ
  have e1 : sM S (pos true S (iN aJ)) k z = S.filter fun v => (v.aJ == aJ) && dW v z := by
    refine yO hk (fun v => v.aJ == aJ) _ (fun i hi h => ?_) (fun i hi h1 h2 => beq_iff_eq.2 (sm i hi h1 h2)) (fun i hi h => ?_)
    · cases hs : (S[i].aJ == aJ) with
      | false => rfl
      | true =>
        have hm := perm.mem_iff.2 (List.getElem_mem hi)
        exact absurd (P.lo i hi h) (aj0 (ok _ hm) (g _ hm) (beq_iff_eq.1 hs))
    · have hkl : k < S.length := by omega
      have h1 : 0 < Lib.compareBytes S[k].aJ (iN aJ).aJ := O6 (P.hi k hkl hk) fun q => ne hkl (B0 _ _ q)
      have h2 : 0 < Lib.compareBytes S[i].aJ (iN aJ).aJ := by
        by_cases q : i = k
        · subst q; exact h1
        · exact ai6 (o := fun a b : Ver => Lib.compareBytes a.aJ b.aJ) (t := iN aJ) T7 h1 (BQ (rS.at_ hkl hi (by omega)))
      rw [beq_eq_false_iff_ne]
      intro hs
      rw [hs] at h2
      have : Lib.compareBytes aJ (iN aJ).aJ = 0 := oT aJ
      omega
  rw [e1]
  refine xL (o := false) ?_ (rL.sublist List.filter_sublist) (perm.symm.filter _)
  refine (List.Pairwise.filter _ rS).imp_of_mem fun {a b} ha hb hab => ?_
  have s1 := (List.mem_filter.1 ha).2
  have s2 := (List.mem_filter.1 hb).2
  simp only [Bool.and_eq_true, beq_iff_eq] at s1 s2
  have : orI (Lib.compareBytes a.aJ b.aJ) (eR a b) < 0 := hab
  rw [s1.1, s2.1, oT] at this
  exact this
structure Ixk (K : Nat → Prop) (h : Hp) (n x : Nat) (L : List Ver) : Prop where
  ix : ∃ D M, Ix h n D M x L ∧ ∀ j, K j → j < n ∧ ¬ M j ∧ ¬ D j
  g : ∀ v ∈ L, zX v
theorem Ixk.rL {K : Nat → Prop} {h : Hp} {n x : Nat} {L : List Ver} (s : Ixk K h n x L) : cQ false L := by
  obtain ⟨⟨D, M, i, _⟩, _⟩ := s
  exact i.r
theorem Ixk.k {K : Nat → Prop} {h : Hp} {n x : Nat} {L : List Ver} (s : Ixk K h n x L) {j : Nat} (hj : K j) : j < n := by
  obtain ⟨⟨D, M, i, q⟩, _⟩ := s
  exact (q j hj).1
theorem Ixk.sub {K K' : Nat → Prop} {h : Hp} {n x : Nat} {L : List Ver} (s : Ixk K h n x L) (hk : ∀ j, K' j → K j) : Ixk K' h n x L := by
  obtain ⟨⟨D, M, i, q⟩, g⟩ := s
  exact ⟨⟨D, M, i, fun j hj => q j (hk j hj)⟩, g⟩
theorem Ixk.uC {K : Nat → Prop} {h h' : Hp} {n n' x : Nat} {L : List Ver} (s : Ixk K h n x L) (hn : n ≤ n') (ho : Old h h' n) : Ixk (fun j => K j ∨ (n ≤ j ∧ j < n')) h' n' x L := by
  obtain ⟨⟨D, M, i, q⟩, g⟩ := s
  refine ⟨⟨D, M, i.old hn ho, fun j hj => ?_⟩, g⟩
  rcases hj with hj | hj
  · exact ⟨by have := (q j hj).1; omega, (q j hj).2⟩
  · obtain ⟨⟨S, ⟨vl, vs, xl, xs, iv, mx, ml, ms, mn⟩, _⟩, _⟩ := i
    exact ⟨hj.2, fun w => by have := (mn j w).1; omega, fun w => by have := iv.dn j w; omega⟩
theorem Ixk.old {K : Nat → Prop} {h h' : Hp} {n n' x : Nat} {L : List Ver} (s : Ixk K h n x L) (hn : n ≤ n') (ho : Old h h' n) : Ixk K h' n' x L := (s.uC hn ho).sub fun j q => .inl q
theorem Ix.xlt {h : Hp} {n x : Nat} {D M : Nat → Prop} {L : List Ver} (i : Ix h n D M x L) : x < n := by
  obtain ⟨⟨S, ⟨vl, vs, xl, xs, iv, _⟩, _⟩, _⟩ := i
  exact iv.xn
theorem Chg.k {K : Nat → Prop} {h h' : Hp} {n n' : Nat} {D M D' M' : Nat → Prop} (c : Chg h n D M h' n' D' M') (q : ∀ j, K j → j < n ∧ ¬ M j ∧ ¬ D j) : (∀ j, K j → h' j = h j) ∧ ∀ j, K j → j < n' ∧ ¬ M' j ∧ ¬ D' j := by
  refine ⟨fun j hj => c.old j (q j hj).1 (q j hj).2.1, fun j hj => ⟨by have := (q j hj).1; have := c.nx; omega, fun w => ?_, fun w => ?_⟩⟩
  · have := q j hj
    rcases c.m' j w with w | w
    · exact this.2.1 w
    · omega
  · have := q j hj
    rcases c.d' j w with w | w
    · exact this.2.2 w
    · omega
theorem DP {L : List Ver} {v w : Ver} : w ∈ nG L v ↔ w = v ∨ w ∈ L := E4
theorem DQ (L : List Ver) (v : Ver) : (nG L v).length = L.length + 1 := (vF _ _ _).length_eq.trans rfl
theorem L6 {L : List Ver} {v w : Ver} (h : w ∈ kX L v) : w ∈ L := CK h
theorem AY {w : Ver} {aI : List UInt8} {pn made : Int} (h : eR w (key aI pn made) = 0) : w.aI = aI ∧ w.pn = pn ∧ w.made = made := by
  have e : eR w (key aI pn made) = orI (qM w.aI w.pn aI pn) (iO w.made made) := rfl
  rw [e] at h
  unfold orI at h
  split at h
  · rename_i q
    have s := lN.2 q
    unfold same at s
    simp only [Bool.and_eq_true, decide_eq_true_eq, beq_iff_eq] at s
    exact ⟨s.1, s.2, rO.1 h⟩
  · contradiction
theorem CA (w : Ver) : eR w (key w.aI w.pn w.made) = 0 := by
  have e : eR w (key w.aI w.pn w.made) = eR w w := rfl
  rw [e]; exact pV.refl w
def sN (L : List Ver) (w v : Ver) : List Ver := L.set (pos false L w) v
theorem J2 {L : List Ver} {w : Ver} (r : cQ false L) (hw : w ∈ L) (s : Int) (b : List UInt8) : nG (kX L w) (fY w s b) = sN L w (fY w s b) := NR r hw (pV.refl w)
theorem xI {L : List Ver} {w v u : Ver} (h : u ∈ sN L w v) : u = v ∨ u ∈ L := (List.mem_or_eq_of_mem_set h).symm
theorem DG (L : List Ver) (w v : Ver) : (sN L w v).length = L.length := List.length_set
theorem AX {w : Ver} (g : zX w) {s : Int} {b : List UInt8} (h : s = 0 ∨ (1 ≤ s ∧ w.made ≤ s)) : zX (fY w s b) := by
  have m := g.made
  refine ⟨?_, g.2⟩
  unfold wL fY
  simp only [Bool.or_eq_false_iff, decide_eq_false_iff_not, Bool.and_eq_false_iff]
  omega
theorem ar5 {K : Nat → Prop} {x : Nat} {L : List Ver} {h : Hp} {n : Nat} (hs : Ixk K h n x L) (hc : L.length ≤ 900000) (hf : aY h n) :
    Wp (bH env (aV env) 32 [.ptr x 0]) h n fun v' h' n' => VL h' n n' v' L ∧ Old h h' n := by
  obtain ⟨⟨D, M, i, q⟩, g⟩ := hs
  exact f32 x L D M h n i (by omega) hf
theorem aQ5 {K : Nat → Prop} {x : Nat} (z : Int) {L : List Ver} {h : Hp} {n : Nat} (hs : Ixk K h n x L) (hc : L.length ≤ 900000) (hf : aY h n) :
    Wp (bH env (aV env) 39 [.ptr x 0, .int .i64 z]) h n fun v' h' n' => VL h' n n' v' (L.filter fun v => dW v z) ∧ Old h h' n := by
  obtain ⟨⟨D, M, i, q⟩, g⟩ := hs
  exact f39 x z L D M h n i (by omega) hf
def noV : Ver := ⟨List.replicate 32 0, 0, 0, 0, [], false, 0, List.replicate 32 0⟩
theorem OP : noV.Ok := ⟨rfl, rfl⟩
theorem au7 : eK.i.zero.cells = aK noV .aN := rfl
theorem ab3 {K : Nat → Prop} {x : Nat} (aI : List UInt8) (pn z : Int) (hl : aI.length = 32) {L : List Ver} {h : Hp} {n : Nat} (hs : Ixk K h n x L) (hc : L.length ≤ 900000) (hf : aY h n) :
    Wp (bH env (aV env) 37 [.ptr x 0, .agg (aS aI pn), .int .i64 z]) h n fun v' h' n' => Old h h' n ∧ ∃ s', v' = .tup [.agg (aK ((atV L aI pn z).getD noV) s'), .bool (atV L aI pn z).isSome] ∧ ((atV L aI pn z).getD noV).Ok ∧ Bytes h' s' ((atV L aI pn z).getD noV).aJ ∧ ∀ j, aP s' = some j → n ≤ j ∧ j < n' := by
  have rL := hs.rL
  obtain ⟨⟨D, M, i, q⟩, g⟩ := hs
  have ok := i.ok
  refine cP (f37 x aI pn z hl L D M h n i (by omega) hf) fun v' h' n' ⟨o, k, hk, sm, ne, hh⟩ => ⟨o, ?_⟩
  rw [au2 rL g hk sm ne] at hh
  rcases hh with ⟨e, hv⟩ | ⟨w, s', e, hv, hw, b, hj⟩
  · exact ⟨.aN, by rw [hv, e, au7]; rfl, by rw [e]; exact OP, by rw [e]; exact .aN, fun j q => by cases q⟩
  · exact ⟨s', by rw [hv, e]; rfl, by rw [e]; exact (ok w hw).1, by rw [e]; exact b, hj⟩
theorem aQ4 {K : Nat → Prop} {x : Nat} (sv : a9) (aJ : List UInt8) (z : Int) {L : List Ver} {h : Hp} {n : Nat} (hs : Ixk K h n x L) (hb : Bytes h sv aJ) (hsn : ∀ j, aP sv = some j → j < n) (hc : L.length ≤ 900000) (hf : aY h n) :
    Wp (bH env (aV env) 43 [.ptr x 0, sv, .int .i64 z]) h n fun v' h' n' => VL h' n n' v' (ofV L aJ z) ∧ Old h h' n := by
  have rL := hs.rL
  obtain ⟨⟨D, M, i, q⟩, g⟩ := hs
  have ok := i.ok
  refine cP (f43 x sv aJ z L D M h n i hb hsn (by omega) hf) fun v' h' n' ⟨o, S, k, rS, perm, hk, sm, ne, v⟩ => ⟨?_, o⟩
  rwa [of_eq rL rS perm (fun v hv => (ok v hv).1) g hk sm ne] at v
def z0 : List UInt8 := List.replicate 32 0
def b9 : List UInt8 := 9 :: List.replicate 31 0
theorem k5 : Try.prog.cellsOf 5 = 1 := by kernel_rfl
theorem k2 : Try.prog.cellsOf 2 = 1 := by kernel_rfl
theorem k3 : Try.prog.cellsOf 3 = 1 := by kernel_rfl
theorem k4 : Try.prog.cellsOf 4 = 1 := by kernel_rfl
theorem k25 : Try.prog.cellsOf 25 = 32 := by kernel_rfl
theorem k26 : Try.prog.cellsOf 26 = 1 := by kernel_rfl
theorem k28 : Try.prog.cellsOf 28 = 33 := by kernel_rfl
theorem k29 : Try.prog.cellsOf 29 = 1 := by kernel_rfl
theorem k31 : Try.prog.cellsOf 31 = 70 := by kernel_rfl
theorem ae2 (b : UInt8) : iV (u8 b) = b := by simp [iV, u8]
theorem uP {vs : List a9} (ha : Arg Try.prog 25 vs) : ∃ l : List UInt8, vs = l.map u8 ∧ l.length = 32 := by
  obtain ⟨hl, he⟩ := ha.LI Try.underlying25
  rw [k25] at hl
  refine ⟨vs.map iV, ?_, by simpa using hl⟩
  rw [List.map_map]
  refine List.ext_getElem (by simp) fun i h1 h2 => ?_
  have q := he i (by omega)
  rw [k5, Nat.mul_one] at q
  obtain ⟨z, e, hw⟩ := q.cH Try.underlying5
  have e' : vs[i] = .int .u8 z := by
    have : ((vs.drop i).take 1)[0]? = some vs[i] := by simp [List.getElem?_drop, h1]
    rw [e] at this
    simpa using this.symm
  rw [List.getElem_map, Function.comp, e']
  have : a9.int .u8 z = u8 (byteOf z) := by rw [u8, vM hw]
  rw [this, ae2]
theorem mW (vs : List a9) (a k : Nat) : vs.drop a = (vs.drop a).take k ++ vs.drop (a + k) := by
  rw [← List.drop_drop, List.take_append_drop]
theorem vR {vs : List a9} (ha : Arg Try.prog 28 vs) : ∃ (aI : List UInt8) (pn : Int), vs = aS aI pn ∧ aI.length = 32 ∧ 0 ≤ pn := by
  obtain ⟨hl, he⟩ := ha.lJ Try.underlying28
  rw [k28] at hl
  have q0 : Arg Try.prog 25 ((vs.drop 0).take (Try.prog.cellsOf 25)) := he 0 _ rfl
  have q1 : Arg Try.prog 26 ((vs.drop 32).take (Try.prog.cellsOf 26)) := he 1 _ rfl
  rw [k25] at q0
  rw [k26] at q1
  obtain ⟨aI, e0, hh⟩ := uP q0
  obtain ⟨pn, e1, hw⟩ := q1.cH Try.underlying26
  refine ⟨aI, pn, ?_, hh, ?_⟩
  · have c0 := mW vs 0 32
    have c1 := mW vs (0 + 32) 1
    rw [List.drop_zero] at c0
    rw [List.drop_zero] at e0
    rw [e0, c1, e1, List.drop_eq_nil_of_le (show vs.length ≤ 0 + 32 + 1 by omega)] at c0
    rw [c0]; rfl
  · simp only [Lit.wf, Bool.and_eq_true, decide_eq_true_eq] at hw
    exact hw.1
structure HV (v : Ver) (sv : a9) : Prop where
  ok : v.Ok
  pn : 0 ≤ v.pn
  s : qT sv v.aJ
  sl : v.aJ.length ≤ maxLen
  m : (Lit.int .i64 v.made).wf = true
theorem JA {v : a9} {l : List UInt8} (hv : qT v l) : aP v = none := by
  cases hi : aP v with
  | none => rfl
  | some j => exact absurd (LH (hv.below 0) hi) (Nat.not_lt_zero j)
theorem US {vs : List a9} (ha : Arg Try.prog 31 vs) : ∃ v sv, vs = aK v sv ∧ HV v sv := by
  obtain ⟨hl, he⟩ := ha.lJ Try.underlying31
  rw [k31] at hl
  have q0 : Arg Try.prog 28 ((vs.drop 0).take (Try.prog.cellsOf 28)) := he 0 _ rfl
  have q1 : Arg Try.prog 3 ((vs.drop 33).take (Try.prog.cellsOf 3)) := he 1 _ rfl
  have q2 : Arg Try.prog 2 ((vs.drop 34).take (Try.prog.cellsOf 2)) := he 2 _ rfl
  have q3 : Arg Try.prog 29 ((vs.drop 35).take (Try.prog.cellsOf 29)) := he 3 _ rfl
  have q4 : Arg Try.prog 4 ((vs.drop 36).take (Try.prog.cellsOf 4)) := he 4 _ rfl
  have q5 : Arg Try.prog 3 ((vs.drop 37).take (Try.prog.cellsOf 3)) := he 5 _ rfl
  have q6 : Arg Try.prog 25 ((vs.drop 38).take (Try.prog.cellsOf 25)) := he 6 _ rfl
  rw [k28] at q0
  rw [k3] at q1 q5
  rw [k2] at q2
  rw [k29] at q3
  rw [k4] at q4
  rw [k25] at q6
  obtain ⟨aI, pn, e0, hh, hp⟩ := vR q0
  obtain ⟨made, e1, w1⟩ := q1.cH Try.underlying3
  obtain ⟨value, e2, w2⟩ := q2.cH Try.underlying2
  have e3 : ∃ sv, (vs.drop 35).take 1 = [sv] := by
    have : ((vs.drop 35).take 1).length = 1 := by simp; omega
    exact List.length_eq_one_iff.1 this
  obtain ⟨sv, e3⟩ := e3
  rw [e3] at q3
  obtain ⟨aJ, hb, hbl⟩ := LJ Try.underlying29 Try.underlying5 k5 q3
  obtain ⟨cX, e4⟩ := q4.iP Try.underlying4
  obtain ⟨bX, e5, w5⟩ := q5.cH Try.underlying3
  obtain ⟨by_, e6, hby⟩ := uP q6
  refine ⟨⟨aI, pn, made, value, aJ, cX, bX, by_⟩, sv, ?_, ⟨⟨hh, hby⟩, hp, hb, hbl, w1⟩⟩
  have c0 := mW vs 0 33
  rw [List.drop_zero] at c0
  rw [List.drop_zero] at e0
  rw [e0, mW vs (0 + 33) 1, e1, mW vs (0 + 33 + 1) 1, e2, mW vs (0 + 33 + 1 + 1) 1, e3, mW vs (0 + 33 + 1 + 1 + 1) 1, e4, mW vs (0 + 33 + 1 + 1 + 1 + 1) 1, e5, mW vs (0 + 33 + 1 + 1 + 1 + 1 + 1) 32, e6, List.drop_eq_nil_of_le (show vs.length ≤ 0 + 33 + 1 + 1 + 1 + 1 + 1 + 32 by omega)] at c0
  rw [c0]
  simp [aK, nB]
structure OpI where
  kind : Int
  v : Ver
  at_ : Int
theorem CM (f : Nat → a9) (o n : Nat) : (cut f o n).length = n := by simp [cut]
theorem uK (f : Nat → a9) (o n : Nat) {j : Nat} (h : j < (cut f o n).length) : (cut f o n)[j] = f (o + j) := by simp [cut]
theorem CL (f : Nat → a9) (o n a b : Nat) (h : a + b ≤ n) : ((cut f o n).drop a).take b = cut f (o + a) b := by
  refine List.ext_getElem (by simp [cut]; omega) fun i h1 h2 => ?_
  rw [List.getElem_take, List.getElem_drop, uK, uK, Nat.add_assoc]
theorem tP {xs ys : List a9} {a b i : Nat} (h : (xs.drop a).take b = ys) (hi : i < b) : xs[a + i]? = ys[i]? := by
  rw [← h, List.getElem?_take, if_pos hi, List.getElem?_drop]
section
variable {h : Hp} {n id : Nat} {o : OpI} {sv : a9}
end
theorem AW (v : Ver) : wM v v = true := by
  unfold wM
  simp [show qM v.aI v.pn v.aI v.pn = 0 from XB.refl v]
theorem yH : ∀ l : List Ver, eqL l l = true
  | [] => rfl
  | v :: l => by simp only [eqL, AW, yH l, Bool.and_self]
theorem N1 {L : List Ver} (r : cQ false L) {w : Ver} (hw : w ∈ L) (v : Ver) : sN L w v = L.map fun u => if eR u w = 0 then v else u := by
  obtain ⟨hp, hpw⟩ := oF r (oE r w) hw
  unfold sN
  refine List.ext_getElem (by simp) fun i h1 h2 => ?_
  rw [List.getElem_set, List.getElem_map]
  have hi : i < L.length := by simpa using h1
  by_cases c : pos false L w = i
  · subst c
    rw [if_pos rfl, if_pos (by rw [hpw]; exact pV.refl w)]
  · rw [if_neg c, if_neg fun q => ?_]
    have := kN r (List.getElem_mem hi) hw q
    rcases Nat.lt_trichotomy (pos false L w) i with d | d | d
    · have q2 := r.at_ hp hi d
      rw [hpw, this] at q2
      have := pV.refl w
      have : eR w w < 0 := q2
      omega
    · exact c d
    · have q2 := r.at_ hi hp d
      rw [hpw, this] at q2
      have := pV.refl w
      have : eR w w < 0 := q2
      omega
theorem VL.aM {h h' : Hp} {a b : Nat} {v : a9} {vs : List Ver} (l : VL h a b v vs) (hk : ∀ j, a ≤ j → j < b → h' j = h j) : VL h' a b v vs := by
  obtain ⟨cells, c1, c2, c3⟩ := l
  exact ⟨cells, c1.aM fun j q => hk j (c3 j q).1 (c3 j q).2, c2.mono (fun j q => q) (fun j q => hk j q.1 q.2.1), c3⟩
theorem VL.old {h h' : Hp} {a b n : Nat} {v : a9} {vs : List Ver} (l : VL h a b v vs) (hn : b ≤ n) (hk : Old h h' n) : VL h' a b v vs := l.aM fun j _ q => hk j (by omega)
theorem DZ {h : Hp} {n a b c d : Nat} {v w : a9} {vs ws : List Ver} (lv : VL h a b v vs) (lw : VL h c d w ws) (hb : b ≤ n) (hd : d ≤ n) (hc : vs.length ≤ 10000000) (hf : aY h n) :
    Wp (bH env (aV env) 35 [v, w]) h n fun v' h' n' => v' = .bool (eqL vs ws) ∧ Old h h' n := by
  obtain ⟨cv, v1, v2, v3⟩ := lv
  obtain ⟨cw, w1, w2, w3⟩ := lw
  exact f35 v w vs ws cv cw (fun j => j < n) h n hc v1.rds w1.rds (v2.mono (fun j q => by have := q.2.1; omega) (fun j q => rfl)) (w2.mono (fun j q => by have := q.2.1; omega) (fun j q => rfl)) (fun j q => by have := v3 j q; omega) (fun j q => by have := w3 j q; omega) (fun j q => q) hf
structure VAt (h : Hp) (a b : Nat) (v : a9) (k : Nat) (w : Ver) (sw : a9) : Prop where
  ok : w.Ok
  all : ∀ n, Rd (load env 31 (cS k v)) h n (rid v) (.agg (aK w sw))
  pt : ∀ n, Rd (load env 28 (cS k v)) h n (rid v) (.agg (aS w.aI w.pn))
  made : ∀ n, Rd (load env 3 (cS (k + 33) v)) h n (rid v) (.int .i64 w.made)
  bX : ∀ n, Rd (load env 3 (cS (k + 37) v)) h n (rid v) (.int .i64 w.bX)
  aJ : ∀ n, Rd (load env 29 (cS (k + 35) v)) h n (rid v) sw
  mv : ∀ k m, aR m (cS k v) = M.pure (cS (k + m) v)
  s : Bytes h sw w.aJ
  sn : ∀ j, aP sw = some j → a ≤ j ∧ j < b
theorem VL.at_ {h : Hp} {a b : Nat} {v : a9} {vs : List Ver} (l : VL h a b v vs) {i : Nat} (hi : i < vs.length) : ∃ sw, VAt h a b v (i * 70) vs[i] sw := by
  obtain ⟨cells, c1, c2, c3⟩ := l
  obtain ⟨sw, e, bs, o, d⟩ := c2.at_ i hi
  have hr := c1.rds
  have hl : i * 70 + 70 ≤ cells.length := by rw [c2.len]; omega
  have one : ∀ k x, k < 70 → (aK vs[i] sw)[k]? = some x → cells[i * 70 + k]? = some x := fun k x hk hx => by rw [tP e hk, hx]
  refine ⟨sw, o, fun n => ?_, fun n => ?_, fun n => hr.load ti3 rfl (one 33 _ (by omega) (jH o.h 0)), fun n => hr.load ti3 rfl (one 37 _ (by omega) (jH o.h 4)), fun n => hr.load uY rfl (one 35 _ (by omega) (jH o.h 2)), fun k m => iQ hr (by omega) k m, bs, fun j q => ⟨(d j q).1, (d j q).2.1⟩⟩
  · have := hr.agg (E := env) (n := n) (k := i * 70) cY rfl (by decide) hl
    have e' : (cells.drop (i * 70)).take 70 = aK vs[i] sw := e
    exact e' ▸ this
  · have := hr.agg (E := env) (n := n) (k := i * 70) gG rfl (by decide) (by show i * 70 + 33 ≤ _; omega)
    have e' : (cells.drop (i * 70)).take 33 = aS vs[i].aI vs[i].pn := by
      rw [← xF (sv := sw) o.h, ← e, List.take_take]; rfl
    exact e' ▸ this
theorem VL.len {h : Hp} {a b : Nat} {v : a9} {vs : List Ver} (l : VL h a b v vs) {ts : List TypeId} : cA env (43 :: ts) v = M.pure (.int .i64 (vs.length : Nat)) := by
  obtain ⟨cells, c1, c2, c3⟩ := l
  exact c1.rds.cA u43
theorem VL.idx {h : Hp} {a b : Nat} {v : a9} {vs : List Ver} (l : VL h a b v vs) {i : Nat} (hi : i < vs.length) {h' : Hp} {n' : Nat} : Rd (indexAddr env 43 v (.int .i64 ((i : Nat) : Int))) h' n' [] (cS (i * 70) v) := by
  obtain ⟨cells, c1, c2, c3⟩ := l
  exact c1.rds.idx u43 LL rfl hi
def b1 : List UInt8 := 1 :: List.replicate 31 0
theorem hU {α : Type} {l : List α} {i : Nat} (h : i < l.length) : l.take (i + 1) = l.take i ++ [l[i]] := by
  rw [List.take_add_one, List.getElem?_eq_getElem h]; rfl
theorem t128 : ti env 128 = M.pure ⟨.pointer 31, 1, 8, .dG⟩ := iT
theorem LN {h : Hp} {n b cnt : Nat} {v : a9} {xs : List a9} (hb : h b = some (.row (.l []) 128)) (hv : Rds h 1 v cnt xs) (h1 : xs.all bB = true) (hc : cnt ≤ 1000000) (hf : aY h n) :
    Wp (fD env [95, 95] (.sl b 0 0 (some 0) 1) v) h n fun v' h' n' => (cnt = 0 ∧ v' = .sl b 0 0 (some 0) 1 ∧ h' = h ∧ n' = n) ∨ (0 < cnt ∧ v' = .sl n 0 cnt none 1 ∧ h' = upd h n (some (.row (.l xs) 128)) ∧ n' = n + 1) := by
  simp only [fD, u95, aB, sV, append, t128, hv.len, gD]
  by_cases hk : cnt = 0
  · subst hk
    rw [Nat.beq_refl]
    exact aT.2 (.inl ⟨rfl, rfl, rfl, rfl⟩)
  have hk0 : cnt.beq 0 = false := kF hk
  simp only [hk0]
  refine dX hv.cells ?_
  have r1 : ((2 * cnt * 8).ble room && cnt.ble room) = true := by
    unfold room
    rw [cO (by omega), cO (by omega)]; rfl
  have e0 : (0 + cnt).ble 0 = false := gX (by omega)
  have sc : cM 1 0 (.sl b 0 0 (some 0) 1) = (eQ b).bind (eE fun c _ => (ob ((0 + 0 * 1).ble c.size)).bind fun _ => M.pure (c.sub 0 (0 * 1))) := rfl
  simp only [cB, eT, hb, Option.some.injEq, exists_eq_left', eE, gD, e0]
  refine dX (a := []) ((Rds.sl (sz := 1) b 0 0 (some 0) (.l []) 128 [] hb rfl (by simp) (fun j hj => by simp at hj)).cells) ?_
  simp only [iG, eL, gC, aT, r1, true_and, Nat.zero_add, List.nil_append, and_self, and_true]
  exact .inr (by omega)
theorem Lp.EN {h : Hp} {v : a9} {cnt : Nat} {xs : List a9} (l : Lp h v cnt xs) : binOp env .eql 95 v .aN = M.pure (.bool (lX v)) ∧ (lX v = true → v = .aN ∧ cnt = 0 ∧ xs = []) := by
  cases l with
  | nil => exact ⟨rfl, fun _ => ⟨rfl, rfl, rfl⟩⟩
  | zero id off c hh hs => exact ⟨rfl, fun q => by cases q⟩
  | sl id cnt cells xs hh h0 hl hx => exact ⟨rfl, fun q => by cases q⟩
end Go.Am.Ytlgebaofkolkoaa
