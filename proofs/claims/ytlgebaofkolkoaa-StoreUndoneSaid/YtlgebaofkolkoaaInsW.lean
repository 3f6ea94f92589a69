/- slices.Insert, gone through: where the room is known. -/
import Derived.Test.YtlgebaofkolkoaaInsD
set_option linter.unusedSimpArgs false
set_option linter.unusedVariables false
set_option linter.defProp false
set_option maxRecDepth 10000
namespace Go.Am.Ytlgebaofkolkoaa.Ins
open Go Go.Am Go.Proofs
theorem u95 : und env 95 = M.pure (.slice 128) := by simp only [und, pJ, bind_pure]
theorem pH : sizeOf env 128 = M.pure 1 := by simp only [sizeOf, iL, bind_pure]
theorem M3 {h : Hp} {n id len C xid : Nat} {cells : List a9} {xc : bM} {e' : TypeId} (hh : h id = some (.row (.l cells) 128)) (hC : cells.length = C) (hl : len ≤ C) (hr : 2 * (len + 1) * 8 ≤ 281474976710656) (hr2 : len + 1 ≤ 281474976710656)
  (hx : h xid = some (.row xc e')) (hxc : 0 < xc.size) (hv : bJ (xc.at 0) = true) :
  Wp (fG env [95, 95] (.sl id 0 len (some C) 1) (.sl xid 0 1 (some 1) 1)) h n fun v' h' n' =>
   (len + 1 ≤ C ∧ v' = .sl id 0 (len + 1) (some C) 1 ∧ n' = n ∧ h' = upd h id (some (.row (.l (bX cells len [xc.at 0])) 128))) ∨
   (C < len + 1 ∧ v' = .sl n 0 (len + 1) none 1 ∧ n' = n + 1 ∧ h' = upd h n (some (.row (.l (cells.take len ++ [xc.at 0])) 128))) := by
 have hx1 : Rds h 1 (.sl xid 0 1 (some 1) 1) 1 [xc.at 0] := .sl xid 0 1 (some 1) xc e' _ hx rfl (by simp; omega) (fun j hj => by
  have : j = 0 := by simpa using hj
  subst this; rfl)
 have hs : Rds h 1 (.sl id 0 len (some C) 1) len (cells.take len) := .sl id 0 len (some C) (.l cells) 128 _ hh (by rw [List.length_take]; omega) (by rw [List.length_take]; show 0 + _ ≤ cells.length; omega) (fun j hj => by
  rw [List.length_take] at hj
  rw [Nat.zero_add, bM.sT (by omega), List.getElem_take])
 simp only [fG, u95, bind_pure, eU, append, iL, lenOf, bind_assoc, fW, show (Nat.beq 1 0) = false from rfl]
 refine eV hx1.cells ?_
 simp only [bN, show (Nat.beq 1 1) = true from rfl, eW, hh, Option.some.injEq, exists_eq_left', cO, fW]
 by_cases hf : len + 1 ≤ C
 ·rw [cT hf]
  have hb : (len + 1).ble cells.length = true := cT (by omega)
  simp only [dN, Nat.zero_add, Nat.mul_one, bind_assoc, eW, hh, Option.some.injEq, exists_eq_left', cO, eL, bM.size, List.length_singleton, hb, List.all_cons, List.all_nil, hv, Bool.and_true, kO, true_and, wp_pure]
  rw [mB _ _ _ (by simp; omega)]
  exact ⟨by simp, .inl ⟨hf, rfl⟩⟩
 ·rw [gP hf]
  refine eV hs.cells ?_
  have r1 : ((2 * (len + 1) * 8).ble room && (len + 1).ble room) = true := by
   unfold room
   rw [cT hr, cT hr2]; rfl
  simp only [grown, eL, gV, wp_pure, r1, true_and]
  exact .inr ⟨by omega, trivial⟩
theorem OS {id len C k : Nat} {z : Int} (hz : z = (k : Nat)) (hk : k ≤ C) {h' : Hp} {n' : Nat} : Rd (slice env 95 (.sl id 0 len (some C) 1) none (some (.int .i64 z)) none) h' n' [] (.sl id 0 k (some C) 1) := by
 subst hz
 simp only [slice, u95, pH, bind_pure, bound, cP, bind_assoc, bN, show (Nat.beq 1 1) = true from rfl, Nat.zero_mul, Nat.add_zero, Nat.sub_zero, Int.toNat_natCast]
 exact Rd.bind (i2 := []) (Rd.ob (decide_eq_true ⟨by omega, by omega⟩)) (Rd.pure _)
theorem A6 {id len C k : Nat} {z : Int} (hz : z = (k : Nat)) (hk : k ≤ len) (hl : len ≤ C) {h' : Hp} {n' : Nat} : Rd (slice env 95 (.sl id 0 len (some C) 1) (some (.int .i64 z)) none none) h' n' [] (.sl id k (len - k) (some (C - k)) 1) := by
 subst hz
 simp only [slice, u95, pH, bind_pure, bound, cP, bind_assoc, bN, show (Nat.beq 1 1) = true from rfl, Nat.zero_add, Nat.mul_one, Int.toNat_natCast]
 exact Rd.bind (i2 := []) (Rd.ob (decide_eq_true ⟨by omega, by omega⟩)) (Rd.pure _)
theorem HU {id len k : Nat} {z : Int} (hz : z = (k : Nat)) (hk : k ≤ len) {h' : Hp} {n' : Nat} : Rd (slice env 95 (.sl id 0 len none 1) (some (.int .i64 z)) none none) h' n' [] (.sl id k (len - k) none 1) := by
 subst hz
 simp only [slice, k9, u95, pH, bind_pure, bound, cP, bind_assoc, bN, show (Nat.beq 1 1) = true from rfl, Nat.zero_add, Nat.mul_one, Int.toNat_natCast]
 exact Rd.bind (i2 := []) (Rd.ob (decide_eq_true ⟨by omega, by omega⟩)) (Rd.pure _)
theorem WR (m : Nat) : (fF [a9.nilp] m).length = m := by rw [I2]; simp
theorem LZ {h : Hp} {n id k C m : Nat} {cells : List a9} {z : Int} (hz : z = (m : Nat)) (hh : h id = some (.row (.l cells) 128)) (hC : cells.length = C) (hk : k ≤ C) (hm : 0 < m) (hc : C < k + m) (hr : 2 * (k + m) * 8 ≤ 281474976710656) (hr2 : k + m ≤ 281474976710656) :
  Wp (fG env [95, 3] (.sl id 0 k (some C) 1) (.int .i64 z)) h n fun v' h' n' => v' = .sl n 0 (k + m) none 1 ∧ n' = n + 1 ∧ h' = upd h n (some (.row (.l (cells.take k ++ fF [.nilp] m)) 128)) := by
 subst hz
 have hs : Rds h 1 (.sl id 0 k (some C) 1) k (cells.take k) := .sl id 0 k (some C) (.l cells) 128 _ hh (by rw [List.length_take]; omega) (by rw [List.length_take]; show 0 + _ ≤ cells.length; omega) (fun j hj => by
  rw [List.length_take] at hj
  rw [Nat.zero_add, bM.sT (by omega), List.getElem_take])
 have u3 : und env 3 = M.pure (.int .i64) := by simp only [und, ti3, bind_pure]
 have d : decide (0 < ((m : Nat) : Int) ∧ C < k + ((m : Nat) : Int).toNat ∧ 0 < 1 ∧ (a9.nilp.cells.all bJ) = true) = true := decide_eq_true ⟨by omega, by rw [Int.toNat_natCast]; omega, by omega, rfl⟩
 have r1 : ((2 * (k + m) * 8).ble room && (k + m).ble room) = true := by
  unfold room
  rw [cT hr, cT hr2]; rfl
 simp only [fG, u3, bind_pure, eU, cP, uH, u95, iL, bN, show (Nat.beq 1 1) = true from rfl, bind_assoc, d, eL, true_and]
 refine eV hs.cells ?_
 simp only [grown, Int.toNat_natCast, eL, gV, wp_pure, r1, true_and]
 rfl
theorem ER {h : Hp} {n d doff dl sid soff sl m : Nat} {dcap scap : Option Nat} {dc xs : List a9} {e' e2 : TypeId} {c2 : bM} (hd : h d = some (.row (.l dc) e')) (hs : h sid = some (.row c2 e2)) (hm : min sl dl = m) (h0 : 0 < m) (hf : doff + m ≤ dc.length) (hc : soff + m ≤ c2.size) (hx : c2.sub soff m = xs) (h1 : xs.all bJ = true) :
  Wr (copy env 95 (.sl d doff dl dcap 1) (.sl sid soff sl scap 1)) h n [d, sid] [d] (.int .i64 m) (upd h d (some (.row (.l (bX dc doff xs)) e'))) := by
 have hl : xs.length = m := by rw [← hx, bM.gK hc]
 have hsl : m ≤ sl := by omega
 simp only [copy, u95, bind_pure, lenOf, pH, hm]
 have a0 : (m.beq 0) = false := jM (by omega)
 refine Wr.bind (i1 := []) (rs := [d, sid]) (Rd.ask _) ?_
 rw [a0]
 simp only
 refine Wr.bind (rs := [d]) (i1 := [sid]) (a := xs) ?_ ?_
 ·simp only [dO, bN, show (Nat.beq 1 1) = true from rfl, Nat.mul_one]
  refine Rd.bind (i2 := []) (i1 := [sid]) (Rd.get hs) ?_
  simp only [cO]
  refine Rd.bind (i1 := []) (i2 := []) (Rd.ob (cT hsl)) ?_
  refine Rd.bind (i1 := []) (i2 := []) (Rd.ob (cT hc)) ?_
  rw [hx]
  exact Rd.pure _
 simp only [bN, show (Nat.beq 1 1) = true from rfl]
 refine Wr.ret (a := ()) ?_
 simp only [dN]
 refine Wr.bind (rs := []) (i1 := [d]) (Rd.get hd) ?_
 simp only [cO, bM.size]
 refine Wr.bind (rs := []) (i1 := []) (Rd.ob (cT (by omega))) ?_
 simp only [h1]
 rw [mB _ _ _ (by omega)]
 exact Wr.set hd
theorem AV {α : Type} {ys : List α} {k : Nat} {v : α} (hk : k ≤ ys.length) (j : Nat) : (fL ys k v)[j]? = if j < k then ys[j]? else if j = k then some v else ys[j - 1]? := by
 have hl : (ys.take k).length = k := by rw [List.length_take]; omega
 unfold fL
 by_cases a : j < k
 ·rw [if_pos a, List.getElem?_append_left (by omega), List.getElem?_take, if_pos a]
 ·rw [if_neg a, List.getElem?_append_right (by omega), hl]
  by_cases b : j = k
  ·subst b; rw [if_pos rfl, Nat.sub_self]; rfl
  ·rw [if_neg b, show j - k = (j - k - 1) + 1 by omega, List.getElem?_cons_succ, List.getElem?_drop]
   congr 1; omega
theorem M9 {xs ys : List a9} {k len : Nat} {v : a9} (hy : ys.length = len) (hk : k < len) (hx : len + 1 ≤ xs.length) (he : ∀ j, j < k → xs[j]? = ys[j]?) : (bX (bX xs k [v]) (k + 1) (ys.drop k)).take (len + 1) = fL ys k v := by
 have h1 : (bX xs k [v]).length = xs.length := eY (by simp; omega)
 have h2 : (ys.drop k).length = len - k := by rw [List.length_drop, hy]
 refine List.ext_getElem? fun j => ?_
 rw [AV (by omega)]
 by_cases hj : j < len + 1
 ·rw [List.getElem?_take, if_pos hj, oS (by rw [h1, h2]; omega), h2, oS (by simp; omega)]
  simp only [List.length_singleton]
  by_cases a : j < k
  ·rw [if_neg (by omega), if_neg (by omega), if_pos a, he j a]
  ·by_cases b : j = k
   ·subst b; rw [if_neg (by omega), if_pos (by omega), if_neg a, if_pos rfl, Nat.sub_self]; rfl
   ·rw [if_pos (by omega), if_neg a, if_neg b, List.getElem?_drop]
    congr 1; omega
 ·rw [List.getElem?_eq_none (by rw [List.length_take]; omega), if_neg (by omega), if_neg (by omega), List.getElem?_eq_none (by omega)]
theorem NL {xs : List a9} {k len : Nat} {v : a9} (hk : k < len) (hx : len + 1 ≤ xs.length) : (bX (bX xs (k + 1) ((xs.take len).drop k)) k [v]).take (len + 1) = fL (xs.take len) k v := by
 have hy : (xs.take len).length = len := by rw [List.length_take]; omega
 have h2 : ((xs.take len).drop k).length = len - k := by rw [List.length_drop, hy]
 have h1 : (bX xs (k + 1) ((xs.take len).drop k)).length = xs.length := eY (by rw [h2]; omega)
 refine List.ext_getElem? fun j => ?_
 rw [AV (by omega)]
 by_cases hj : j < len + 1
 ·rw [List.getElem?_take, if_pos hj, oS (by simp; omega), oS (by rw [h2]; omega), h2]
  simp only [List.length_singleton]
  by_cases a : j < k
  ·rw [if_neg (by omega), if_neg (by omega), if_pos a, List.getElem?_take, if_pos (by omega)]
  ·by_cases b : j = k
   ·subst b; rw [if_pos (by omega), if_neg a, if_pos rfl, Nat.sub_self]; rfl
   ·rw [if_neg (by omega), if_pos (by omega), if_neg a, if_neg b, List.getElem?_drop]
    congr 1; omega
 ·rw [List.getElem?_eq_none (by rw [List.length_take]; omega), if_neg (by omega), if_neg (by omega), List.getElem?_eq_none (by omega)]
theorem VI {h : Hp} {n xid id off len l2 off2 : Nat} {c1 c2 : Option Nat} {xc c : bM} {e' : TypeId} (hx : h xid = some (.row xc 128)) (hh : h id = some (.row c e')) (hne : xid ≠ id) (h1 : 0 < len) (h2 : 0 < l2) (h3 : 0 < c.size) :
  Wp (gD 128 [.sl xid off len c1 1, .sl id off2 l2 c2 1]) h n fun v' h' n' => v' = .bool false ∧ h' = h ∧ n' = n := by
 have b1 : (xid.beq id) = false := jM hne
 have b2 : Nat.blt 0 len = true := Nat.ble_eq_true_of_le h1
 have b3 : Nat.blt 0 l2 = true := Nat.ble_eq_true_of_le h2
 have b4 : Nat.blt 0 c.size = true := Nat.ble_eq_true_of_le h3
 simp only [gD, eL, b1, b2, b3, b4, Bool.not_false, Bool.and_self, true_and, eW, hx, hh, Option.some.injEq, exists_eq_left', cO, Nat.beq_refl, wp_pure, and_self]
set_option maxHeartbeats 8000000 in
theorem f104 (h : Hp) (n : Nat) (id len C k xid : Nat) (cells : List a9) (xc : bM) (hh : h id = some (.row (.l cells) 128)) (hC : cells.length = C) (hl : len ≤ C) (h0 : 0 < C) (hr : 2 * (len + 1) * 8 ≤ 281474976710656) (hr2 : len + 1 ≤ 281474976710656) (hk : k ≤ len) (h1 : (cells.take len).all bJ = true)
  (hx : h xid = some (.row xc 128)) (hxc : 0 < xc.size) (hv : bJ (xc.at 0) = true) (hxn : xid < n) (hin : id < n) (hne : xid ≠ id) :
  Wp (aZ env (evalW env) 104 [.sl id 0 len (some C) 1, .int .i64 (k : Nat), .sl xid 0 1 (some 1) 1]) h n fun v' h' n' =>
   (v' = .sl id 0 (len + 1) (some C) 1 ∧ n' = n ∧ len + 1 ≤ C ∧ ∃ cells', cells'.length = C ∧ cells'.take (len + 1) = fL (cells.take len) k (xc.at 0) ∧ ∀ j, h' j = if j = id then some (.row (.l cells') 128) else h j) ∨
   (v' = .sl n 0 (len + 1) none 1 ∧ n' = n + 1 ∧ ∀ j, h' j = if j = n then some (.row (.l (fL (cells.take len) k (xc.at 0))) 128) else h j) := by
 refine bI P4 P3 ?_
 have hs : Rds h 1 (.sl id 0 len (some C) 1) len (cells.take len) := .sl id 0 len (some C) (.l cells) 128 _ hh (by rw [List.length_take]; omega) (by rw [List.length_take]; show 0 + _ ≤ cells.length; omega) (fun j hj => by
  rw [List.length_take] at hj
  rw [Nat.zero_add, bM.sT (by omega), List.getElem_take])
 simp only [xX, Try.f104, Option.getD_some, List.replicate, aB, bE, dE, u8, tyr, fgr, hkr, execOp, opd, bC, opt, ofValue, eE, ofList, dA, aC, put, nth, aA, aI, aD, builtin, dB, eT, eG, cW, min2, max2, blr, eI, eU, und, sizeOf, zeroOf, lenOf, bor, aJ, aY, aK, cJ, intOp, bR, strOp, dH, cP, slK, dQ, unOp, aW, branch, idx, bF, cellsOf, oneOf, eD, cel, alloc, cF, newRow, nilCheck, extract, aV, ended, aP, aQ, cO, dM, aO, fieldAddr, field, part, index, bN, bG, equal, cR, cD, dF, dK, dP, cE, List.getElem?_cons_succ, List.getElem?_cons_zero, List.append_eq, List.cons_append, List.nil_append, List.append_nil, List.length_cons, List.length_nil, Nat.reduceAdd, Nat.reduceSub, Nat.beq, Option.bind_some, nc0, nc1, Int.cast_ofNat_Int, cN, cM, cL, ↓reduceIte, Int.reduceEq, Int.reduceLT, Int.reduceLE, Int.reduceNe, Int.reduceAdd, Int.reduceSub, Int.reduceMul, Int.reduceNeg, Int.reduceGT, Int.reduceGE, ge_iff_le, gt_iff_lt, not_true_eq_false, not_false_eq_true, decide_not, decide_true, decide_false, Bool.not_true, Bool.not_false, Bool.and_true, Bool.true_and, Bool.and_false, Bool.false_and, Bool.or_true, Bool.true_or, Bool.or_false, Bool.false_or, and_true, true_and, and_self, Nat.zero_add, Nat.add_zero, Int.toNat_zero, Nat.zero_mul, wp_pure, beq_self_eq_true, bne_self_eq_false, reduceCtorEq]
 rw [aN (hs.yS u95 pH rfl hk)]
 by_cases ek : k = len
 ·subst ek
  have ei : (((k : Nat) : Int) = ((k : Nat) : Int)) = True := by simp
  have hI : fL (cells.take k) k (xc.at 0) = cells.take k ++ [xc.at 0] := by
   have hlt : (cells.take k).length = k := by rw [List.length_take]; omega
   unfold fL
   rw [List.take_of_length_le (Nat.le_of_eq hlt), List.drop_eq_nil_of_le (Nat.le_of_eq hlt)]
  simp only [aB, bE, dE, u8, tyr, fgr, hkr, execOp, opd, bC, opt, ofValue, eE, ofList, dA, aC, put, nth, aA, aI, aD, builtin, dB, eT, eG, cW, min2, max2, blr, eI, eU, und, sizeOf, zeroOf, lenOf, bor, aJ, aY, aK, cJ, intOp, bR, strOp, dH, cP, slK, dQ, unOp, aW, branch, idx, bF, cellsOf, oneOf, eD, cel, alloc, cF, newRow, nilCheck, extract, aV, ended, aP, aQ, cO, dM, aO, fieldAddr, field, part, index, bN, bG, equal, cR, cD, dF, dK, dP, cE, List.getElem?_cons_succ, List.getElem?_cons_zero, List.append_eq, List.cons_append, List.nil_append, List.append_nil, List.length_cons, List.length_nil, Nat.reduceAdd, Nat.reduceSub, Nat.beq, Option.bind_some, nc0, nc1, Int.cast_ofNat_Int, cN, cM, cL, ↓reduceIte, Int.reduceEq, Int.reduceLT, Int.reduceLE, Int.reduceNe, Int.reduceAdd, Int.reduceSub, Int.reduceMul, Int.reduceNeg, Int.reduceGT, Int.reduceGE, ge_iff_le, gt_iff_lt, not_true_eq_false, not_false_eq_true, decide_not, decide_true, decide_false, Bool.not_true, Bool.not_false, Bool.and_true, Bool.true_and, Bool.and_false, Bool.false_and, Bool.or_true, Bool.true_or, Bool.or_false, Bool.false_or, and_true, true_and, and_self, Nat.zero_add, Nat.add_zero, Int.toNat_zero, Nat.zero_mul, wp_pure, beq_self_eq_true, bne_self_eq_false, reduceCtorEq, ei]
  refine wp_mono (M3 hh hC hl hr hr2 hx hxc hv) fun v' h' n' hq => ?_
  rcases hq with ⟨c1, rfl, rfl, rfl⟩ | ⟨c1, rfl, rfl, rfl⟩
  ·simp only [aB, bE, dE, u8, tyr, fgr, hkr, execOp, opd, bC, opt, ofValue, eE, ofList, dA, aC, put, nth, aA, aI, aD, builtin, dB, eT, eG, cW, min2, max2, blr, eI, eU, und, sizeOf, zeroOf, lenOf, bor, aJ, aY, aK, cJ, intOp, bR, strOp, dH, cP, slK, dQ, unOp, aW, branch, idx, bF, cellsOf, oneOf, eD, cel, alloc, cF, newRow, nilCheck, extract, aV, ended, aP, aQ, cO, dM, aO, fieldAddr, field, part, index, bN, bG, equal, cR, cD, dF, dK, dP, cE, List.getElem?_cons_succ, List.getElem?_cons_zero, List.append_eq, List.cons_append, List.nil_append, List.append_nil, List.length_cons, List.length_nil, Nat.reduceAdd, Nat.reduceSub, Nat.beq, Option.bind_some, nc0, nc1, Int.cast_ofNat_Int, cN, cM, cL, ↓reduceIte, Int.reduceEq, Int.reduceLT, Int.reduceLE, Int.reduceNe, Int.reduceAdd, Int.reduceSub, Int.reduceMul, Int.reduceNeg, Int.reduceGT, Int.reduceGE, ge_iff_le, gt_iff_lt, not_true_eq_false, not_false_eq_true, decide_not, decide_true, decide_false, Bool.not_true, Bool.not_false, Bool.and_true, Bool.true_and, Bool.and_false, Bool.false_and, Bool.or_true, Bool.true_or, Bool.or_false, Bool.false_or, and_true, true_and, and_self, Nat.zero_add, Nat.add_zero, Int.toNat_zero, Nat.zero_mul, wp_pure, beq_self_eq_true, bne_self_eq_false, reduceCtorEq]
   refine .inl ⟨c1, _, by rw [eY (by simp; omega)]; exact hC, ?_, fun j => rfl⟩
   rw [hI, show k + 1 = k + ([xc.at 0] : List a9).length from rfl, nI (by simp; omega)]
  ·simp only [aB, bE, dE, u8, tyr, fgr, hkr, execOp, opd, bC, opt, ofValue, eE, ofList, dA, aC, put, nth, aA, aI, aD, builtin, dB, eT, eG, cW, min2, max2, blr, eI, eU, und, sizeOf, zeroOf, lenOf, bor, aJ, aY, aK, cJ, intOp, bR, strOp, dH, cP, slK, dQ, unOp, aW, branch, idx, bF, cellsOf, oneOf, eD, cel, alloc, cF, newRow, nilCheck, extract, aV, ended, aP, aQ, cO, dM, aO, fieldAddr, field, part, index, bN, bG, equal, cR, cD, dF, dK, dP, cE, List.getElem?_cons_succ, List.getElem?_cons_zero, List.append_eq, List.cons_append, List.nil_append, List.append_nil, List.length_cons, List.length_nil, Nat.reduceAdd, Nat.reduceSub, Nat.beq, Option.bind_some, nc0, nc1, Int.cast_ofNat_Int, cN, cM, cL, ↓reduceIte, Int.reduceEq, Int.reduceLT, Int.reduceLE, Int.reduceNe, Int.reduceAdd, Int.reduceSub, Int.reduceMul, Int.reduceNeg, Int.reduceGT, Int.reduceGE, ge_iff_le, gt_iff_lt, not_true_eq_false, not_false_eq_true, decide_not, decide_true, decide_false, Bool.not_true, Bool.not_false, Bool.and_true, Bool.true_and, Bool.and_false, Bool.false_and, Bool.or_true, Bool.true_or, Bool.or_false, Bool.false_or, and_true, true_and, and_self, Nat.zero_add, Nat.add_zero, Int.toNat_zero, Nat.zero_mul, wp_pure, beq_self_eq_true, bne_self_eq_false, reduceCtorEq]
   refine .inr fun j => ?_
   rw [hI]; rfl
 have hkl : k < len := by omega
 have ei : (((k : Nat) : Int) = ((len : Nat) : Int)) = False := by simp; omega
 simp (disch := omega) only [aB, bE, dE, u8, tyr, fgr, hkr, execOp, opd, bC, opt, ofValue, eE, ofList, dA, aC, put, nth, aA, aI, aD, builtin, dB, eT, eG, cW, min2, max2, blr, eI, eU, und, sizeOf, zeroOf, lenOf, bor, aJ, aY, aK, cJ, intOp, bR, strOp, dH, cP, slK, dQ, unOp, aW, branch, idx, bF, cellsOf, oneOf, eD, cel, alloc, cF, newRow, nilCheck, extract, aV, ended, aP, aQ, cO, dM, aO, fieldAddr, field, part, index, bN, bG, equal, cR, cD, dF, dK, dP, cE, List.getElem?_cons_succ, List.getElem?_cons_zero, List.append_eq, List.cons_append, List.nil_append, List.append_nil, List.length_cons, List.length_nil, Nat.reduceAdd, Nat.reduceSub, Nat.beq, Option.bind_some, nc0, nc1, Int.cast_ofNat_Int, cN, cM, cL, ↓reduceIte, Int.reduceEq, Int.reduceLT, Int.reduceLE, Int.reduceNe, Int.reduceAdd, Int.reduceSub, Int.reduceMul, Int.reduceNeg, Int.reduceGT, Int.reduceGE, ge_iff_le, gt_iff_lt, not_true_eq_false, not_false_eq_true, decide_not, decide_true, decide_false, Bool.not_true, Bool.not_false, Bool.and_true, Bool.true_and, Bool.and_false, Bool.false_and, Bool.or_true, Bool.true_or, Bool.or_false, Bool.false_or, and_true, true_and, and_self, Nat.zero_add, Nat.add_zero, Int.toNat_zero, Nat.zero_mul, wp_pure, beq_self_eq_true, bne_self_eq_false, reduceCtorEq, ei, OI, KS, w64]
 by_cases ec : C < len + 1
 ·have e1 : (((C : Nat) : Int) < ((len : Nat) : Int) + 1) = True := by simp; omega
  simp only [aB, bE, dE, u8, tyr, fgr, hkr, execOp, opd, bC, opt, ofValue, eE, ofList, dA, aC, put, nth, aA, aI, aD, builtin, dB, eT, eG, cW, min2, max2, blr, eI, eU, und, sizeOf, zeroOf, lenOf, bor, aJ, aY, aK, cJ, intOp, bR, strOp, dH, cP, slK, dQ, unOp, aW, branch, idx, bF, cellsOf, oneOf, eD, cel, alloc, cF, newRow, nilCheck, extract, aV, ended, aP, aQ, cO, dM, aO, fieldAddr, field, part, index, bN, bG, equal, cR, cD, dF, dK, dP, cE, List.getElem?_cons_succ, List.getElem?_cons_zero, List.append_eq, List.cons_append, List.nil_append, List.append_nil, List.length_cons, List.length_nil, Nat.reduceAdd, Nat.reduceSub, Nat.beq, Option.bind_some, nc0, nc1, Int.cast_ofNat_Int, cN, cM, cL, ↓reduceIte, Int.reduceEq, Int.reduceLT, Int.reduceLE, Int.reduceNe, Int.reduceAdd, Int.reduceSub, Int.reduceMul, Int.reduceNeg, Int.reduceGT, Int.reduceGE, ge_iff_le, gt_iff_lt, not_true_eq_false, not_false_eq_true, decide_not, decide_true, decide_false, Bool.not_true, Bool.not_false, Bool.and_true, Bool.true_and, Bool.and_false, Bool.false_and, Bool.or_true, Bool.true_or, Bool.or_false, Bool.false_or, and_true, true_and, and_self, Nat.zero_add, Nat.add_zero, Int.toNat_zero, Nat.zero_mul, wp_pure, beq_self_eq_true, bne_self_eq_false, reduceCtorEq, e1]
  rw [aN (OS rfl (by omega))]
  simp (disch := omega) only [aB, bE, dE, u8, tyr, fgr, hkr, execOp, opd, bC, opt, ofValue, eE, ofList, dA, aC, put, nth, aA, aI, aD, builtin, dB, eT, eG, cW, min2, max2, blr, eI, eU, und, sizeOf, zeroOf, lenOf, bor, aJ, aY, aK, cJ, intOp, bR, strOp, dH, cP, slK, dQ, unOp, aW, branch, idx, bF, cellsOf, oneOf, eD, cel, alloc, cF, newRow, nilCheck, extract, aV, ended, aP, aQ, cO, dM, aO, fieldAddr, field, part, index, bN, bG, equal, cR, cD, dF, dK, dP, cE, List.getElem?_cons_succ, List.getElem?_cons_zero, List.append_eq, List.cons_append, List.nil_append, List.append_nil, List.length_cons, List.length_nil, Nat.reduceAdd, Nat.reduceSub, Nat.beq, Option.bind_some, nc0, nc1, Int.cast_ofNat_Int, cN, cM, cL, ↓reduceIte, Int.reduceEq, Int.reduceLT, Int.reduceLE, Int.reduceNe, Int.reduceAdd, Int.reduceSub, Int.reduceMul, Int.reduceNeg, Int.reduceGT, Int.reduceGE, ge_iff_le, gt_iff_lt, not_true_eq_false, not_false_eq_true, decide_not, decide_true, decide_false, Bool.not_true, Bool.not_false, Bool.and_true, Bool.true_and, Bool.and_false, Bool.false_and, Bool.or_true, Bool.true_or, Bool.or_false, Bool.false_or, and_true, true_and, and_self, Nat.zero_add, Nat.add_zero, Int.toNat_zero, Nat.zero_mul, wp_pure, beq_self_eq_true, bne_self_eq_false, reduceCtorEq, w64]
  refine wp_mono (LZ (m := len + 1 - k) (by omega) hh hC (by omega) (by omega) (by omega) (by omega) (by omega)) fun v' h' n' ⟨e1, e2, e3⟩ => ?_
  subst e1; subst e2; subst e3
  rw [show k + (len + 1 - k) = len + 1 by omega]
  simp (disch := omega) only [aB, bE, dE, u8, tyr, fgr, hkr, execOp, opd, bC, opt, ofValue, eE, ofList, dA, aC, put, nth, aA, aI, aD, builtin, dB, eT, eG, cW, min2, max2, blr, eI, eU, und, sizeOf, zeroOf, lenOf, bor, aJ, aY, aK, cJ, intOp, bR, strOp, dH, cP, slK, dQ, unOp, aW, branch, idx, bF, cellsOf, oneOf, eD, cel, alloc, cF, newRow, nilCheck, extract, aV, ended, aP, aQ, cO, dM, aO, fieldAddr, field, part, index, bN, bG, equal, cR, cD, dF, dK, dP, cE, List.getElem?_cons_succ, List.getElem?_cons_zero, List.append_eq, List.cons_append, List.nil_append, List.append_nil, List.length_cons, List.length_nil, Nat.reduceAdd, Nat.reduceSub, Nat.beq, Option.bind_some, nc0, nc1, Int.cast_ofNat_Int, cN, cM, cL, ↓reduceIte, Int.reduceEq, Int.reduceLT, Int.reduceLE, Int.reduceNe, Int.reduceAdd, Int.reduceSub, Int.reduceMul, Int.reduceNeg, Int.reduceGT, Int.reduceGE, ge_iff_le, gt_iff_lt, not_true_eq_false, not_false_eq_true, decide_not, decide_true, decide_false, Bool.not_true, Bool.not_false, Bool.and_true, Bool.true_and, Bool.and_false, Bool.false_and, Bool.or_true, Bool.true_or, Bool.or_false, Bool.false_or, and_true, true_and, and_self, Nat.zero_add, Nat.add_zero, Int.toNat_zero, Nat.zero_mul, wp_pure, beq_self_eq_true, bne_self_eq_false, reduceCtorEq, w64]
  rw [aN (HU rfl (by omega))]
  simp (disch := omega) only [aB, bE, dE, u8, tyr, fgr, hkr, execOp, opd, bC, opt, ofValue, eE, ofList, dA, aC, put, nth, aA, aI, aD, builtin, dB, eT, eG, cW, min2, max2, blr, eI, eU, und, sizeOf, zeroOf, lenOf, bor, aJ, aY, aK, cJ, intOp, bR, strOp, dH, cP, slK, dQ, unOp, aW, branch, idx, bF, cellsOf, oneOf, eD, cel, alloc, cF, newRow, nilCheck, extract, aV, ended, aP, aQ, cO, dM, aO, fieldAddr, field, part, index, bN, bG, equal, cR, cD, dF, dK, dP, cE, List.getElem?_cons_succ, List.getElem?_cons_zero, List.append_eq, List.cons_append, List.nil_append, List.append_nil, List.length_cons, List.length_nil, Nat.reduceAdd, Nat.reduceSub, Nat.beq, Option.bind_some, nc0, nc1, Int.cast_ofNat_Int, cN, cM, cL, ↓reduceIte, Int.reduceEq, Int.reduceLT, Int.reduceLE, Int.reduceNe, Int.reduceAdd, Int.reduceSub, Int.reduceMul, Int.reduceNeg, Int.reduceGT, Int.reduceGE, ge_iff_le, gt_iff_lt, not_true_eq_false, not_false_eq_true, decide_not, decide_true, decide_false, Bool.not_true, Bool.not_false, Bool.and_true, Bool.true_and, Bool.and_false, Bool.false_and, Bool.or_true, Bool.true_or, Bool.or_false, Bool.false_or, and_true, true_and, and_self, Nat.zero_add, Nat.add_zero, Int.toNat_zero, Nat.zero_mul, wp_pure, beq_self_eq_true, bne_self_eq_false, reduceCtorEq, w64]
  have hh1 := aU h n (some (Blk.row (bM.l (cells.take k ++ fF [a9.nilp] (len + 1 - k))) 128))
  have hL1 : (cells.take k ++ fF [a9.nilp] (len + 1 - k)).length = len + 1 := by rw [List.length_append, List.length_take, WR]; omega
  have hxs : xc.sub 0 1 = [xc.at 0] := bM.sub_one hxc
  rw [eC (ER (m := 1) hh1 ((aR _ _ (by omega)).trans hx) (by omega) (by omega) (by rw [hL1]; omega) hxc hxs (by simp [hv]))]
  simp (disch := omega) only [aB, bE, dE, u8, tyr, fgr, hkr, execOp, opd, bC, opt, ofValue, eE, ofList, dA, aC, put, nth, aA, aI, aD, builtin, dB, eT, eG, cW, min2, max2, blr, eI, eU, und, sizeOf, zeroOf, lenOf, bor, aJ, aY, aK, cJ, intOp, bR, strOp, dH, cP, slK, dQ, unOp, aW, branch, idx, bF, cellsOf, oneOf, eD, cel, alloc, cF, newRow, nilCheck, extract, aV, ended, aP, aQ, cO, dM, aO, fieldAddr, field, part, index, bN, bG, equal, cR, cD, dF, dK, dP, cE, List.getElem?_cons_succ, List.getElem?_cons_zero, List.append_eq, List.cons_append, List.nil_append, List.append_nil, List.length_cons, List.length_nil, Nat.reduceAdd, Nat.reduceSub, Nat.beq, Option.bind_some, nc0, nc1, Int.cast_ofNat_Int, cN, cM, cL, ↓reduceIte, Int.reduceEq, Int.reduceLT, Int.reduceLE, Int.reduceNe, Int.reduceAdd, Int.reduceSub, Int.reduceMul, Int.reduceNeg, Int.reduceGT, Int.reduceGE, ge_iff_le, gt_iff_lt, not_true_eq_false, not_false_eq_true, decide_not, decide_true, decide_false, Bool.not_true, Bool.not_false, Bool.and_true, Bool.true_and, Bool.and_false, Bool.false_and, Bool.or_true, Bool.true_or, Bool.or_false, Bool.false_or, and_true, true_and, and_self, Nat.zero_add, Nat.add_zero, Int.toNat_zero, Nat.zero_mul, wp_pure, beq_self_eq_true, bne_self_eq_false, reduceCtorEq, w64]
  generalize hH : upd (upd h n (some (Blk.row (bM.l (cells.take k ++ fF [a9.nilp] (len + 1 - k))) 128))) n (some (Blk.row (bM.l (bX (cells.take k ++ fF [a9.nilp] (len + 1 - k)) k [xc.at 0])) 128)) = H
  have hHo : ∀ j, j ≠ n → H j = h j := fun j hj => by rw [← hH, aR _ _ hj, aR _ _ hj]
  have hHn : H n = some (Blk.row (bM.l (bX (cells.take k ++ fF [a9.nilp] (len + 1 - k)) k [xc.at 0])) 128) := by rw [← hH, aU]
  refine cB ⟨rfl, ?_⟩
  simp (disch := omega) only [bS, aF, cY, cK, cX, lH, iG, jJ, lY, oE, eP, oC, aH, jY, aB, bE, dE, u8, tyr, fgr, hkr, execOp, opd, bC, opt, ofValue, eE, ofList, dA, aC, put, nth, aA, aI, aD, builtin, dB, eT, eG, cW, min2, max2, blr, eI, eU, und, sizeOf, zeroOf, lenOf, bor, aJ, aY, aK, cJ, intOp, bR, strOp, dH, cP, slK, dQ, unOp, aW, branch, idx, bF, cellsOf, oneOf, eD, cel, alloc, cF, newRow, nilCheck, extract, aV, ended, aP, aQ, cO, dM, aO, fieldAddr, field, part, index, bN, bG, equal, cR, cD, dF, dK, dP, cE, List.getElem?_cons_succ, List.getElem?_cons_zero, List.append_eq, List.cons_append, List.nil_append, List.append_nil, List.length_cons, List.length_nil, Nat.reduceAdd, Nat.reduceSub, Nat.beq, Option.bind_some, nc0, nc1, Int.cast_ofNat_Int, cN, cM, cL, ↓reduceIte, Int.reduceEq, Int.reduceLT, Int.reduceLE, Int.reduceNe, Int.reduceAdd, Int.reduceSub, Int.reduceMul, Int.reduceNeg, Int.reduceGT, Int.reduceGE, ge_iff_le, gt_iff_lt, not_true_eq_false, not_false_eq_true, decide_not, decide_true, decide_false, Bool.not_true, Bool.not_false, Bool.and_true, Bool.true_and, Bool.and_false, Bool.false_and, Bool.or_true, Bool.true_or, Bool.or_false, Bool.false_or, and_true, true_and, and_self, Nat.zero_add, Nat.add_zero, Int.toNat_zero, Nat.zero_mul, wp_pure, beq_self_eq_true, bne_self_eq_false, reduceCtorEq, w64]
  rw [bL (HU (k := k + 1) (by omega) (by omega))]
  simp (disch := omega) only [bS, aF, cY, cK, cX, lH, iG, jJ, lY, oE, eP, oC, aH, jY, aB, bE, dE, u8, tyr, fgr, hkr, execOp, opd, bC, opt, ofValue, eE, ofList, dA, aC, put, nth, aA, aI, aD, builtin, dB, eT, eG, cW, min2, max2, blr, eI, eU, und, sizeOf, zeroOf, lenOf, bor, aJ, aY, aK, cJ, intOp, bR, strOp, dH, cP, slK, dQ, unOp, aW, branch, idx, bF, cellsOf, oneOf, eD, cel, alloc, cF, newRow, nilCheck, extract, aV, ended, aP, aQ, cO, dM, aO, fieldAddr, field, part, index, bN, bG, equal, cR, cD, dF, dK, dP, cE, List.getElem?_cons_succ, List.getElem?_cons_zero, List.append_eq, List.cons_append, List.nil_append, List.append_nil, List.length_cons, List.length_nil, Nat.reduceAdd, Nat.reduceSub, Nat.beq, Option.bind_some, nc0, nc1, Int.cast_ofNat_Int, cN, cM, cL, ↓reduceIte, Int.reduceEq, Int.reduceLT, Int.reduceLE, Int.reduceNe, Int.reduceAdd, Int.reduceSub, Int.reduceMul, Int.reduceNeg, Int.reduceGT, Int.reduceGE, ge_iff_le, gt_iff_lt, not_true_eq_false, not_false_eq_true, decide_not, decide_true, decide_false, Bool.not_true, Bool.not_false, Bool.and_true, Bool.true_and, Bool.and_false, Bool.false_and, Bool.or_true, Bool.true_or, Bool.or_false, Bool.false_or, and_true, true_and, and_self, Nat.zero_add, Nat.add_zero, Int.toNat_zero, Nat.zero_mul, wp_pure, beq_self_eq_true, bne_self_eq_false, reduceCtorEq, w64]
  rw [bL (A6 (k := k) (by omega) (by omega) (by omega))]
  simp (disch := omega) only [bS, aF, cY, cK, cX, lH, iG, jJ, lY, oE, eP, oC, aH, jY, aB, bE, dE, u8, tyr, fgr, hkr, execOp, opd, bC, opt, ofValue, eE, ofList, dA, aC, put, nth, aA, aI, aD, builtin, dB, eT, eG, cW, min2, max2, blr, eI, eU, und, sizeOf, zeroOf, lenOf, bor, aJ, aY, aK, cJ, intOp, bR, strOp, dH, cP, slK, dQ, unOp, aW, branch, idx, bF, cellsOf, oneOf, eD, cel, alloc, cF, newRow, nilCheck, extract, aV, ended, aP, aQ, cO, dM, aO, fieldAddr, field, part, index, bN, bG, equal, cR, cD, dF, dK, dP, cE, List.getElem?_cons_succ, List.getElem?_cons_zero, List.append_eq, List.cons_append, List.nil_append, List.append_nil, List.length_cons, List.length_nil, Nat.reduceAdd, Nat.reduceSub, Nat.beq, Option.bind_some, nc0, nc1, Int.cast_ofNat_Int, cN, cM, cL, ↓reduceIte, Int.reduceEq, Int.reduceLT, Int.reduceLE, Int.reduceNe, Int.reduceAdd, Int.reduceSub, Int.reduceMul, Int.reduceNeg, Int.reduceGT, Int.reduceGE, ge_iff_le, gt_iff_lt, not_true_eq_false, not_false_eq_true, decide_not, decide_true, decide_false, Bool.not_true, Bool.not_false, Bool.and_true, Bool.true_and, Bool.and_false, Bool.false_and, Bool.or_true, Bool.true_or, Bool.or_false, Bool.false_or, and_true, true_and, and_self, Nat.zero_add, Nat.add_zero, Int.toNat_zero, Nat.zero_mul, wp_pure, beq_self_eq_true, bne_self_eq_false, reduceCtorEq, w64]
  have hsub : (bM.l cells).sub k (len - k) = (cells.take len).drop k := by
   show (cells.drop k).take (len - k) = _
   rw [List.drop_take]
  have hone : ((cells.take len).drop k).all bJ = true := by
   rw [List.all_eq_true] at h1 ⊢
   exact fun x hx => h1 x (List.mem_of_mem_drop hx)
  refine kA (ER (m := len - k) hHn ((hHo id (by omega)).trans hh) (by omega) (by omega) (by rw [eY (by rw [hL1]; simp; omega), hL1]; omega) (by show k + (len - k) ≤ cells.length; omega) hsub hone) ?_
  simp (disch := omega) only [bS, aF, cY, cK, cX, lH, iG, jJ, lY, oE, eP, oC, aH, jY, aB, bE, dE, u8, tyr, fgr, hkr, execOp, opd, bC, opt, ofValue, eE, ofList, dA, aC, put, nth, aA, aI, aD, builtin, dB, eT, eG, cW, min2, max2, blr, eI, eU, und, sizeOf, zeroOf, lenOf, bor, aJ, aY, aK, cJ, intOp, bR, strOp, dH, cP, slK, dQ, unOp, aW, branch, idx, bF, cellsOf, oneOf, eD, cel, alloc, cF, newRow, nilCheck, extract, aV, ended, aP, aQ, cO, dM, aO, fieldAddr, field, part, index, bN, bG, equal, cR, cD, dF, dK, dP, cE, List.getElem?_cons_succ, List.getElem?_cons_zero, List.append_eq, List.cons_append, List.nil_append, List.append_nil, List.length_cons, List.length_nil, Nat.reduceAdd, Nat.reduceSub, Nat.beq, Option.bind_some, nc0, nc1, Int.cast_ofNat_Int, cN, cM, cL, ↓reduceIte, Int.reduceEq, Int.reduceLT, Int.reduceLE, Int.reduceNe, Int.reduceAdd, Int.reduceSub, Int.reduceMul, Int.reduceNeg, Int.reduceGT, Int.reduceGE, ge_iff_le, gt_iff_lt, not_true_eq_false, not_false_eq_true, decide_not, decide_true, decide_false, Bool.not_true, Bool.not_false, Bool.and_true, Bool.true_and, Bool.and_false, Bool.false_and, Bool.or_true, Bool.true_or, Bool.or_false, Bool.false_or, and_true, true_and, and_self, Nat.zero_add, Nat.add_zero, Int.toNat_zero, Nat.zero_mul, wp_pure, beq_self_eq_true, bne_self_eq_false, reduceCtorEq, w64]
  refine ⟨(by (try simp (disch := omega) only [cV, List.all_cons, List.all_nil, wA, vZ, vY, Bool.not_false, Bool.true_or, Bool.and_true, Bool.true_and, vX, vW, vV, wD, wC, vU, wB]); repeat' (first | rfl | exact (Bool.or_eq_true _ _).mpr (.inr rfl) | refine (Bool.and_eq_true _ _).mpr ⟨?_, ?_⟩)), .inr fun j => ?_⟩
  have := M9 (xs := cells.take k ++ fF [a9.nilp] (len + 1 - k)) (ys := cells.take len) (k := k) (len := len) (v := xc.at 0) (by rw [List.length_take]; omega) hkl (by omega) (fun j hj => by rw [List.getElem?_append_left (by rw [List.length_take]; omega), List.getElem?_take, if_pos hj, List.getElem?_take, if_pos (by omega)])
  rw [List.take_of_length_le (by rw [eY (by rw [eY (by rw [hL1]; simp; omega), hL1, List.length_drop, List.length_take]; omega), eY (by rw [hL1]; simp; omega)]; omega)] at this
  rw [this]
  by_cases q : j = n
  ·subst q; rw [aU, if_pos rfl]
  ·rw [aR _ _ q, if_neg q]; exact hHo j q
 have e1 : (((C : Nat) : Int) < ((len : Nat) : Int) + 1) = False := by simp; omega
 simp (disch := omega) only [aB, bE, dE, u8, tyr, fgr, hkr, execOp, opd, bC, opt, ofValue, eE, ofList, dA, aC, put, nth, aA, aI, aD, builtin, dB, eT, eG, cW, min2, max2, blr, eI, eU, und, sizeOf, zeroOf, lenOf, bor, aJ, aY, aK, cJ, intOp, bR, strOp, dH, cP, slK, dQ, unOp, aW, branch, idx, bF, cellsOf, oneOf, eD, cel, alloc, cF, newRow, nilCheck, extract, aV, ended, aP, aQ, cO, dM, aO, fieldAddr, field, part, index, bN, bG, equal, cR, cD, dF, dK, dP, cE, List.getElem?_cons_succ, List.getElem?_cons_zero, List.append_eq, List.cons_append, List.nil_append, List.append_nil, List.length_cons, List.length_nil, Nat.reduceAdd, Nat.reduceSub, Nat.beq, Option.bind_some, nc0, nc1, Int.cast_ofNat_Int, cN, cM, cL, ↓reduceIte, Int.reduceEq, Int.reduceLT, Int.reduceLE, Int.reduceNe, Int.reduceAdd, Int.reduceSub, Int.reduceMul, Int.reduceNeg, Int.reduceGT, Int.reduceGE, ge_iff_le, gt_iff_lt, not_true_eq_false, not_false_eq_true, decide_not, decide_true, decide_false, Bool.not_true, Bool.not_false, Bool.and_true, Bool.true_and, Bool.and_false, Bool.false_and, Bool.or_true, Bool.true_or, Bool.or_false, Bool.false_or, and_true, true_and, and_self, Nat.zero_add, Nat.add_zero, Int.toNat_zero, Nat.zero_mul, wp_pure, beq_self_eq_true, bne_self_eq_false, reduceCtorEq, e1, w64]
 rw [aN (OS (k := len + 1) (by omega) (by omega))]
 simp (disch := omega) only [aB, bE, dE, u8, tyr, fgr, hkr, execOp, opd, bC, opt, ofValue, eE, ofList, dA, aC, put, nth, aA, aI, aD, builtin, dB, eT, eG, cW, min2, max2, blr, eI, eU, und, sizeOf, zeroOf, lenOf, bor, aJ, aY, aK, cJ, intOp, bR, strOp, dH, cP, slK, dQ, unOp, aW, branch, idx, bF, cellsOf, oneOf, eD, cel, alloc, cF, newRow, nilCheck, extract, aV, ended, aP, aQ, cO, dM, aO, fieldAddr, field, part, index, bN, bG, equal, cR, cD, dF, dK, dP, cE, List.getElem?_cons_succ, List.getElem?_cons_zero, List.append_eq, List.cons_append, List.nil_append, List.append_nil, List.length_cons, List.length_nil, Nat.reduceAdd, Nat.reduceSub, Nat.beq, Option.bind_some, nc0, nc1, Int.cast_ofNat_Int, cN, cM, cL, ↓reduceIte, Int.reduceEq, Int.reduceLT, Int.reduceLE, Int.reduceNe, Int.reduceAdd, Int.reduceSub, Int.reduceMul, Int.reduceNeg, Int.reduceGT, Int.reduceGE, ge_iff_le, gt_iff_lt, not_true_eq_false, not_false_eq_true, decide_not, decide_true, decide_false, Bool.not_true, Bool.not_false, Bool.and_true, Bool.true_and, Bool.and_false, Bool.false_and, Bool.or_true, Bool.true_or, Bool.or_false, Bool.false_or, and_true, true_and, and_self, Nat.zero_add, Nat.add_zero, Int.toNat_zero, Nat.zero_mul, wp_pure, beq_self_eq_true, bne_self_eq_false, reduceCtorEq, w64]
 rw [aN (A6 (k := k + 1) (by omega) (by omega) (by omega))]
 simp (disch := omega) only [aB, bE, dE, u8, tyr, fgr, hkr, execOp, opd, bC, opt, ofValue, eE, ofList, dA, aC, put, nth, aA, aI, aD, builtin, dB, eT, eG, cW, min2, max2, blr, eI, eU, und, sizeOf, zeroOf, lenOf, bor, aJ, aY, aK, cJ, intOp, bR, strOp, dH, cP, slK, dQ, unOp, aW, branch, idx, bF, cellsOf, oneOf, eD, cel, alloc, cF, newRow, nilCheck, extract, aV, ended, aP, aQ, cO, dM, aO, fieldAddr, field, part, index, bN, bG, equal, cR, cD, dF, dK, dP, cE, List.getElem?_cons_succ, List.getElem?_cons_zero, List.append_eq, List.cons_append, List.nil_append, List.append_nil, List.length_cons, List.length_nil, Nat.reduceAdd, Nat.reduceSub, Nat.beq, Option.bind_some, nc0, nc1, Int.cast_ofNat_Int, cN, cM, cL, ↓reduceIte, Int.reduceEq, Int.reduceLT, Int.reduceLE, Int.reduceNe, Int.reduceAdd, Int.reduceSub, Int.reduceMul, Int.reduceNeg, Int.reduceGT, Int.reduceGE, ge_iff_le, gt_iff_lt, not_true_eq_false, not_false_eq_true, decide_not, decide_true, decide_false, Bool.not_true, Bool.not_false, Bool.and_true, Bool.true_and, Bool.and_false, Bool.false_and, Bool.or_true, Bool.true_or, Bool.or_false, Bool.false_or, and_true, true_and, and_self, Nat.zero_add, Nat.add_zero, Int.toNat_zero, Nat.zero_mul, wp_pure, beq_self_eq_true, bne_self_eq_false, reduceCtorEq, w64]
 refine dZ (VI hx hh hne (by omega) (by omega) (by show 0 < cells.length; omega)) ?_
 simp (disch := omega) only [aB, bE, dE, u8, tyr, fgr, hkr, execOp, opd, bC, opt, ofValue, eE, ofList, dA, aC, put, nth, aA, aI, aD, builtin, dB, eT, eG, cW, min2, max2, blr, eI, eU, und, sizeOf, zeroOf, lenOf, bor, aJ, aY, aK, cJ, intOp, bR, strOp, dH, cP, slK, dQ, unOp, aW, branch, idx, bF, cellsOf, oneOf, eD, cel, alloc, cF, newRow, nilCheck, extract, aV, ended, aP, aQ, cO, dM, aO, fieldAddr, field, part, index, bN, bG, equal, cR, cD, dF, dK, dP, cE, List.getElem?_cons_succ, List.getElem?_cons_zero, List.append_eq, List.cons_append, List.nil_append, List.append_nil, List.length_cons, List.length_nil, Nat.reduceAdd, Nat.reduceSub, Nat.beq, Option.bind_some, nc0, nc1, Int.cast_ofNat_Int, cN, cM, cL, ↓reduceIte, Int.reduceEq, Int.reduceLT, Int.reduceLE, Int.reduceNe, Int.reduceAdd, Int.reduceSub, Int.reduceMul, Int.reduceNeg, Int.reduceGT, Int.reduceGE, ge_iff_le, gt_iff_lt, not_true_eq_false, not_false_eq_true, decide_not, decide_true, decide_false, Bool.not_true, Bool.not_false, Bool.and_true, Bool.true_and, Bool.and_false, Bool.false_and, Bool.or_true, Bool.true_or, Bool.or_false, Bool.false_or, and_true, true_and, and_self, Nat.zero_add, Nat.add_zero, Int.toNat_zero, Nat.zero_mul, wp_pure, beq_self_eq_true, bne_self_eq_false, reduceCtorEq, w64]
 refine cB ⟨rfl, ?_⟩
 simp (disch := omega) only [bS, aF, cY, cK, cX, lH, iG, jJ, lY, oE, eP, oC, aH, jY, aB, bE, dE, u8, tyr, fgr, hkr, execOp, opd, bC, opt, ofValue, eE, ofList, dA, aC, put, nth, aA, aI, aD, builtin, dB, eT, eG, cW, min2, max2, blr, eI, eU, und, sizeOf, zeroOf, lenOf, bor, aJ, aY, aK, cJ, intOp, bR, strOp, dH, cP, slK, dQ, unOp, aW, branch, idx, bF, cellsOf, oneOf, eD, cel, alloc, cF, newRow, nilCheck, extract, aV, ended, aP, aQ, cO, dM, aO, fieldAddr, field, part, index, bN, bG, equal, cR, cD, dF, dK, dP, cE, List.getElem?_cons_succ, List.getElem?_cons_zero, List.append_eq, List.cons_append, List.nil_append, List.append_nil, List.length_cons, List.length_nil, Nat.reduceAdd, Nat.reduceSub, Nat.beq, Option.bind_some, nc0, nc1, Int.cast_ofNat_Int, cN, cM, cL, ↓reduceIte, Int.reduceEq, Int.reduceLT, Int.reduceLE, Int.reduceNe, Int.reduceAdd, Int.reduceSub, Int.reduceMul, Int.reduceNeg, Int.reduceGT, Int.reduceGE, ge_iff_le, gt_iff_lt, not_true_eq_false, not_false_eq_true, decide_not, decide_true, decide_false, Bool.not_true, Bool.not_false, Bool.and_true, Bool.true_and, Bool.and_false, Bool.false_and, Bool.or_true, Bool.true_or, Bool.or_false, Bool.false_or, and_true, true_and, and_self, Nat.zero_add, Nat.add_zero, Int.toNat_zero, Nat.zero_mul, wp_pure, beq_self_eq_true, bne_self_eq_false, reduceCtorEq, w64]
 rw [bL (A6 (k := k + 1) (by omega) (by omega) (by omega))]
 simp (disch := omega) only [bS, aF, cY, cK, cX, lH, iG, jJ, lY, oE, eP, oC, aH, jY, aB, bE, dE, u8, tyr, fgr, hkr, execOp, opd, bC, opt, ofValue, eE, ofList, dA, aC, put, nth, aA, aI, aD, builtin, dB, eT, eG, cW, min2, max2, blr, eI, eU, und, sizeOf, zeroOf, lenOf, bor, aJ, aY, aK, cJ, intOp, bR, strOp, dH, cP, slK, dQ, unOp, aW, branch, idx, bF, cellsOf, oneOf, eD, cel, alloc, cF, newRow, nilCheck, extract, aV, ended, aP, aQ, cO, dM, aO, fieldAddr, field, part, index, bN, bG, equal, cR, cD, dF, dK, dP, cE, List.getElem?_cons_succ, List.getElem?_cons_zero, List.append_eq, List.cons_append, List.nil_append, List.append_nil, List.length_cons, List.length_nil, Nat.reduceAdd, Nat.reduceSub, Nat.beq, Option.bind_some, nc0, nc1, Int.cast_ofNat_Int, cN, cM, cL, ↓reduceIte, Int.reduceEq, Int.reduceLT, Int.reduceLE, Int.reduceNe, Int.reduceAdd, Int.reduceSub, Int.reduceMul, Int.reduceNeg, Int.reduceGT, Int.reduceGE, ge_iff_le, gt_iff_lt, not_true_eq_false, not_false_eq_true, decide_not, decide_true, decide_false, Bool.not_true, Bool.not_false, Bool.and_true, Bool.true_and, Bool.and_false, Bool.false_and, Bool.or_true, Bool.true_or, Bool.or_false, Bool.false_or, and_true, true_and, and_self, Nat.zero_add, Nat.add_zero, Int.toNat_zero, Nat.zero_mul, wp_pure, beq_self_eq_true, bne_self_eq_false, reduceCtorEq, w64]
 rw [bL (A6 (k := k) (by omega) (by omega) (by omega))]
 simp (disch := omega) only [bS, aF, cY, cK, cX, lH, iG, jJ, lY, oE, eP, oC, aH, jY, aB, bE, dE, u8, tyr, fgr, hkr, execOp, opd, bC, opt, ofValue, eE, ofList, dA, aC, put, nth, aA, aI, aD, builtin, dB, eT, eG, cW, min2, max2, blr, eI, eU, und, sizeOf, zeroOf, lenOf, bor, aJ, aY, aK, cJ, intOp, bR, strOp, dH, cP, slK, dQ, unOp, aW, branch, idx, bF, cellsOf, oneOf, eD, cel, alloc, cF, newRow, nilCheck, extract, aV, ended, aP, aQ, cO, dM, aO, fieldAddr, field, part, index, bN, bG, equal, cR, cD, dF, dK, dP, cE, List.getElem?_cons_succ, List.getElem?_cons_zero, List.append_eq, List.cons_append, List.nil_append, List.append_nil, List.length_cons, List.length_nil, Nat.reduceAdd, Nat.reduceSub, Nat.beq, Option.bind_some, nc0, nc1, Int.cast_ofNat_Int, cN, cM, cL, ↓reduceIte, Int.reduceEq, Int.reduceLT, Int.reduceLE, Int.reduceNe, Int.reduceAdd, Int.reduceSub, Int.reduceMul, Int.reduceNeg, Int.reduceGT, Int.reduceGE, ge_iff_le, gt_iff_lt, not_true_eq_false, not_false_eq_true, decide_not, decide_true, decide_false, Bool.not_true, Bool.not_false, Bool.and_true, Bool.true_and, Bool.and_false, Bool.false_and, Bool.or_true, Bool.true_or, Bool.or_false, Bool.false_or, and_true, true_and, and_self, Nat.zero_add, Nat.add_zero, Int.toNat_zero, Nat.zero_mul, wp_pure, beq_self_eq_true, bne_self_eq_false, reduceCtorEq, w64]
 have hsub : (bM.l cells).sub k (len - k) = (cells.take len).drop k := by
  show (cells.drop k).take (len - k) = _
  rw [List.drop_take]
 have hone : ((cells.take len).drop k).all bJ = true := by
  rw [List.all_eq_true] at h1 ⊢
  exact fun x hx => h1 x (List.mem_of_mem_drop hx)
 have hl2 : ((cells.take len).drop k).length = len - k := by rw [List.length_drop, List.length_take]; omega
 refine kA (ER (m := len - k) hh hh (by omega) (by omega) (by omega) (by show k + (len - k) ≤ cells.length; omega) hsub hone) ?_
 simp (disch := omega) only [bS, aF, cY, cK, cX, lH, iG, jJ, lY, oE, eP, oC, aH, jY, aB, bE, dE, u8, tyr, fgr, hkr, execOp, opd, bC, opt, ofValue, eE, ofList, dA, aC, put, nth, aA, aI, aD, builtin, dB, eT, eG, cW, min2, max2, blr, eI, eU, und, sizeOf, zeroOf, lenOf, bor, aJ, aY, aK, cJ, intOp, bR, strOp, dH, cP, slK, dQ, unOp, aW, branch, idx, bF, cellsOf, oneOf, eD, cel, alloc, cF, newRow, nilCheck, extract, aV, ended, aP, aQ, cO, dM, aO, fieldAddr, field, part, index, bN, bG, equal, cR, cD, dF, dK, dP, cE, List.getElem?_cons_succ, List.getElem?_cons_zero, List.append_eq, List.cons_append, List.nil_append, List.append_nil, List.length_cons, List.length_nil, Nat.reduceAdd, Nat.reduceSub, Nat.beq, Option.bind_some, nc0, nc1, Int.cast_ofNat_Int, cN, cM, cL, ↓reduceIte, Int.reduceEq, Int.reduceLT, Int.reduceLE, Int.reduceNe, Int.reduceAdd, Int.reduceSub, Int.reduceMul, Int.reduceNeg, Int.reduceGT, Int.reduceGE, ge_iff_le, gt_iff_lt, not_true_eq_false, not_false_eq_true, decide_not, decide_true, decide_false, Bool.not_true, Bool.not_false, Bool.and_true, Bool.true_and, Bool.and_false, Bool.false_and, Bool.or_true, Bool.true_or, Bool.or_false, Bool.false_or, and_true, true_and, and_self, Nat.zero_add, Nat.add_zero, Int.toNat_zero, Nat.zero_mul, wp_pure, beq_self_eq_true, bne_self_eq_false, reduceCtorEq, w64]
 refine ⟨(by (try simp (disch := omega) only [cV, List.all_cons, List.all_nil, wA, vZ, vY, Bool.not_false, Bool.true_or, Bool.and_true, Bool.true_and, vX, vW, vV, wD, wC, vU, wB]); repeat' (first | rfl | exact (Bool.or_eq_true _ _).mpr (.inr rfl) | refine (Bool.and_eq_true _ _).mpr ⟨?_, ?_⟩)), ?_⟩
 rw [aN (A6 (k := k) (by omega) (by omega) (by omega))]
 simp (disch := omega) only [aB, bE, dE, u8, tyr, fgr, hkr, execOp, opd, bC, opt, ofValue, eE, ofList, dA, aC, put, nth, aA, aI, aD, builtin, dB, eT, eG, cW, min2, max2, blr, eI, eU, und, sizeOf, zeroOf, lenOf, bor, aJ, aY, aK, cJ, intOp, bR, strOp, dH, cP, slK, dQ, unOp, aW, branch, idx, bF, cellsOf, oneOf, eD, cel, alloc, cF, newRow, nilCheck, extract, aV, ended, aP, aQ, cO, dM, aO, fieldAddr, field, part, index, bN, bG, equal, cR, cD, dF, dK, dP, cE, List.getElem?_cons_succ, List.getElem?_cons_zero, List.append_eq, List.cons_append, List.nil_append, List.append_nil, List.length_cons, List.length_nil, Nat.reduceAdd, Nat.reduceSub, Nat.beq, Option.bind_some, nc0, nc1, Int.cast_ofNat_Int, cN, cM, cL, ↓reduceIte, Int.reduceEq, Int.reduceLT, Int.reduceLE, Int.reduceNe, Int.reduceAdd, Int.reduceSub, Int.reduceMul, Int.reduceNeg, Int.reduceGT, Int.reduceGE, ge_iff_le, gt_iff_lt, not_true_eq_false, not_false_eq_true, decide_not, decide_true, decide_false, Bool.not_true, Bool.not_false, Bool.and_true, Bool.true_and, Bool.and_false, Bool.false_and, Bool.or_true, Bool.true_or, Bool.or_false, Bool.false_or, and_true, true_and, and_self, Nat.zero_add, Nat.add_zero, Int.toNat_zero, Nat.zero_mul, wp_pure, beq_self_eq_true, bne_self_eq_false, reduceCtorEq, w64]
 have hxs : xc.sub 0 1 = [xc.at 0] := bM.sub_one hxc
 have hsp : (bX cells (k + 1) ((cells.take len).drop k)).length = C := by rw [eY (by rw [hl2]; omega)]; exact hC
 rw [eC (ER (m := 1) (aU _ _ _) ((aR _ _ hne).trans hx) (by omega) (by omega) (by rw [hsp]; omega) hxc hxs (by simp [hv]))]
 simp (disch := omega) only [aB, bE, dE, u8, tyr, fgr, hkr, execOp, opd, bC, opt, ofValue, eE, ofList, dA, aC, put, nth, aA, aI, aD, builtin, dB, eT, eG, cW, min2, max2, blr, eI, eU, und, sizeOf, zeroOf, lenOf, bor, aJ, aY, aK, cJ, intOp, bR, strOp, dH, cP, slK, dQ, unOp, aW, branch, idx, bF, cellsOf, oneOf, eD, cel, alloc, cF, newRow, nilCheck, extract, aV, ended, aP, aQ, cO, dM, aO, fieldAddr, field, part, index, bN, bG, equal, cR, cD, dF, dK, dP, cE, List.getElem?_cons_succ, List.getElem?_cons_zero, List.append_eq, List.cons_append, List.nil_append, List.append_nil, List.length_cons, List.length_nil, Nat.reduceAdd, Nat.reduceSub, Nat.beq, Option.bind_some, nc0, nc1, Int.cast_ofNat_Int, cN, cM, cL, ↓reduceIte, Int.reduceEq, Int.reduceLT, Int.reduceLE, Int.reduceNe, Int.reduceAdd, Int.reduceSub, Int.reduceMul, Int.reduceNeg, Int.reduceGT, Int.reduceGE, ge_iff_le, gt_iff_lt, not_true_eq_false, not_false_eq_true, decide_not, decide_true, decide_false, Bool.not_true, Bool.not_false, Bool.and_true, Bool.true_and, Bool.and_false, Bool.false_and, Bool.or_true, Bool.true_or, Bool.or_false, Bool.false_or, and_true, true_and, and_self, Nat.zero_add, Nat.add_zero, Int.toNat_zero, Nat.zero_mul, wp_pure, beq_self_eq_true, bne_self_eq_false, reduceCtorEq, w64]
 refine .inl ⟨by omega, _, ?_, NL hkl (by omega), fun j => ?_⟩
 ·rw [eY (by rw [hsp]; simp; omega)]; exact hsp
 ·by_cases q : j = id
  ·subst q; rw [aU, if_pos rfl]
  ·rw [aR _ _ q, aR _ _ q, if_neg q]
theorem yO {h : Hp} {n xid : Nat} {s : a9} {xc : bM} {e' : TypeId} (hs : s = .nils ∨ s = .emp ∨ ∃ id off c, s = .sl id off 0 (some 0) 1 ∧ h id = some (.row c 128) ∧ off ≤ c.size) (hx : h xid = some (.row xc e')) (hxc : 0 < xc.size) (hv : bJ (xc.at 0) = true) :
  Wp (fG env [95, 95] s (.sl xid 0 1 (some 1) 1)) h n fun v' h' n' => v' = .sl n 0 1 none 1 ∧ n' = n + 1 ∧ ∀ j, h' j = if j = n then some (.row (.l [xc.at 0]) 128) else h j := by
 have hx1 : Rds h 1 (.sl xid 0 1 (some 1) 1) 1 [xc.at 0] := .sl xid 0 1 (some 1) xc e' _ hx rfl (by simp; omega) (fun j hj => by
  have : j = 0 := by simpa using hj
  subst this; rfl)
 have key : ∀ j, upd h n (some (Blk.row (bM.l [xc.at 0]) 128)) j = if j = n then some (.row (.l [xc.at 0]) 128) else h j := fun j => rfl
 have r1 : ((2 * 1 * 8).ble room && (1).ble room) = true := rfl
 rcases hs with rfl | rfl | ⟨id, off, c, rfl, hc1, hc2⟩
 ·simp only [fG, u95, bind_pure, eU, append, iL, lenOf, bind_assoc, fW, show (Nat.beq 1 0) = false from rfl]
  refine eV hx1.cells ?_
  simp only [grown, eL, gV, wp_pure, r1, true_and]
  exact key
 ·simp only [fG, u95, bind_pure, eU, append, iL, lenOf, bind_assoc, fW, show (Nat.beq 1 0) = false from rfl]
  refine eV hx1.cells ?_
  simp only [grown, eL, gV, wp_pure, r1, true_and]
  exact key
 ·simp only [fG, u95, bind_pure, eU, append, iL, lenOf, bind_assoc, fW, show (Nat.beq 1 0) = false from rfl]
  refine eV hx1.cells ?_
  have hs0 : Rds h 1 (.sl id off 0 (some 0) 1) 0 [] := .sl id off 0 (some 0) c 128 _ hc1 rfl (by simpa using hc2) (fun j hj => by simp at hj)
  simp only [bN, show (Nat.beq 1 1) = true from rfl, eW, hc1, Option.some.injEq, exists_eq_left', cO, fW, show (Nat.ble (0 + 1) 0) = false from rfl]
  refine eV hs0.cells ?_
  simp only [grown, Nat.zero_add, List.nil_append, eL, gV, wp_pure, r1, true_and]
  exact key
theorem ZF (h : Hp) (n : Nat) (s : a9) (xid : Nat) (xc : bM) (hs : s = .nils ∨ s = .emp ∨ ∃ id off c, s = .sl id off 0 (some 0) 1 ∧ h id = some (.row c 128) ∧ off ≤ c.size) (hx : h xid = some (.row xc 128)) (hxc : 0 < xc.size) (hv : bJ (xc.at 0) = true) (hxn : xid < n) :
  Wp (aZ env (evalW env) 104 [s, .int .i64 0, .sl xid 0 1 (some 1) 1]) h n fun v' h' n' => v' = .sl n 0 1 none 1 ∧ n' = n + 1 ∧ ∀ j, h' j = if j = n then some (.row (.l [xc.at 0]) 128) else h j := by
 refine bI P4 P3 ?_
 have hxs : xc.sub 0 1 = [xc.at 0] := bM.sub_one hxc
 have b1 : Nat.ble (0 + 1) xc.size = true := Nat.ble_eq_true_of_le hxc
 have b2 : Nat.ble 1 xc.size = true := Nat.ble_eq_true_of_le hxc
 rcases hs with rfl | rfl | ⟨id, off, c, rfl, hc1, hc2⟩
 ·simp only [xX, Try.f104, Option.getD_some, List.replicate, aB, bE, dE, u8, tyr, fgr, hkr, execOp, opd, bC, opt, ofValue, eE, ofList, dA, aC, put, nth, aA, aI, aD, builtin, dB, eT, eG, cW, min2, max2, blr, eI, eU, und, sizeOf, zeroOf, lenOf, bor, aJ, aY, aK, cJ, intOp, bR, strOp, dH, cP, slK, dQ, unOp, aW, branch, idx, bF, cellsOf, oneOf, eD, cel, alloc, cF, newRow, nilCheck, extract, aV, ended, aP, aQ, cO, dM, aO, fieldAddr, field, part, index, bN, bG, equal, cR, cD, dF, dK, dP, cE, List.getElem?_cons_succ, List.getElem?_cons_zero, List.append_eq, List.cons_append, List.nil_append, List.append_nil, List.length_cons, List.length_nil, Nat.reduceAdd, Nat.reduceSub, Nat.beq, Option.bind_some, nc0, nc1, Int.cast_ofNat_Int, cN, cM, cL, ↓reduceIte, Int.reduceEq, Int.reduceLT, Int.reduceLE, Int.reduceNe, Int.reduceAdd, Int.reduceSub, Int.reduceMul, Int.reduceNeg, Int.reduceGT, Int.reduceGE, ge_iff_le, gt_iff_lt, not_true_eq_false, not_false_eq_true, decide_not, decide_true, decide_false, Bool.not_true, Bool.not_false, Bool.and_true, Bool.true_and, Bool.and_false, Bool.false_and, Bool.or_true, Bool.true_or, Bool.or_false, Bool.false_or, and_true, true_and, and_self, Nat.zero_add, Nat.add_zero, Int.toNat_zero, Nat.zero_mul, wp_pure, beq_self_eq_true, bne_self_eq_false, reduceCtorEq, slice, bound, nR]
  refine wp_mono (yO (.inl rfl) hx hxc hv) fun v' h' n' ⟨e1, e2, e3⟩ => ?_
  subst e1
  simp only [aB, bE, dE, u8, tyr, fgr, hkr, execOp, opd, bC, opt, ofValue, eE, ofList, dA, aC, put, nth, aA, aI, aD, builtin, dB, eT, eG, cW, min2, max2, blr, eI, eU, und, sizeOf, zeroOf, lenOf, bor, aJ, aY, aK, cJ, intOp, bR, strOp, dH, cP, slK, dQ, unOp, aW, branch, idx, bF, cellsOf, oneOf, eD, cel, alloc, cF, newRow, nilCheck, extract, aV, ended, aP, aQ, cO, dM, aO, fieldAddr, field, part, index, bN, bG, equal, cR, cD, dF, dK, dP, cE, List.getElem?_cons_succ, List.getElem?_cons_zero, List.append_eq, List.cons_append, List.nil_append, List.append_nil, List.length_cons, List.length_nil, Nat.reduceAdd, Nat.reduceSub, Nat.beq, Option.bind_some, nc0, nc1, Int.cast_ofNat_Int, cN, cM, cL, ↓reduceIte, Int.reduceEq, Int.reduceLT, Int.reduceLE, Int.reduceNe, Int.reduceAdd, Int.reduceSub, Int.reduceMul, Int.reduceNeg, Int.reduceGT, Int.reduceGE, ge_iff_le, gt_iff_lt, not_true_eq_false, not_false_eq_true, decide_not, decide_true, decide_false, Bool.not_true, Bool.not_false, Bool.and_true, Bool.true_and, Bool.and_false, Bool.false_and, Bool.or_true, Bool.true_or, Bool.or_false, Bool.false_or, and_true, true_and, and_self, Nat.zero_add, Nat.add_zero, Int.toNat_zero, Nat.zero_mul, wp_pure, beq_self_eq_true, bne_self_eq_false, reduceCtorEq, e2]
  exact e3
 ·simp only [xX, Try.f104, Option.getD_some, List.replicate, aB, bE, dE, u8, tyr, fgr, hkr, execOp, opd, bC, opt, ofValue, eE, ofList, dA, aC, put, nth, aA, aI, aD, builtin, dB, eT, eG, cW, min2, max2, blr, eI, eU, und, sizeOf, zeroOf, lenOf, bor, aJ, aY, aK, cJ, intOp, bR, strOp, dH, cP, slK, dQ, unOp, aW, branch, idx, bF, cellsOf, oneOf, eD, cel, alloc, cF, newRow, nilCheck, extract, aV, ended, aP, aQ, cO, dM, aO, fieldAddr, field, part, index, bN, bG, equal, cR, cD, dF, dK, dP, cE, List.getElem?_cons_succ, List.getElem?_cons_zero, List.append_eq, List.cons_append, List.nil_append, List.append_nil, List.length_cons, List.length_nil, Nat.reduceAdd, Nat.reduceSub, Nat.beq, Option.bind_some, nc0, nc1, Int.cast_ofNat_Int, cN, cM, cL, ↓reduceIte, Int.reduceEq, Int.reduceLT, Int.reduceLE, Int.reduceNe, Int.reduceAdd, Int.reduceSub, Int.reduceMul, Int.reduceNeg, Int.reduceGT, Int.reduceGE, ge_iff_le, gt_iff_lt, not_true_eq_false, not_false_eq_true, decide_not, decide_true, decide_false, Bool.not_true, Bool.not_false, Bool.and_true, Bool.true_and, Bool.and_false, Bool.false_and, Bool.or_true, Bool.true_or, Bool.or_false, Bool.false_or, and_true, true_and, and_self, Nat.zero_add, Nat.add_zero, Int.toNat_zero, Nat.zero_mul, wp_pure, beq_self_eq_true, bne_self_eq_false, reduceCtorEq, slice, bound, nR]
  refine wp_mono (yO (.inr (.inl rfl)) hx hxc hv) fun v' h' n' ⟨e1, e2, e3⟩ => ?_
  subst e1
  simp only [aB, bE, dE, u8, tyr, fgr, hkr, execOp, opd, bC, opt, ofValue, eE, ofList, dA, aC, put, nth, aA, aI, aD, builtin, dB, eT, eG, cW, min2, max2, blr, eI, eU, und, sizeOf, zeroOf, lenOf, bor, aJ, aY, aK, cJ, intOp, bR, strOp, dH, cP, slK, dQ, unOp, aW, branch, idx, bF, cellsOf, oneOf, eD, cel, alloc, cF, newRow, nilCheck, extract, aV, ended, aP, aQ, cO, dM, aO, fieldAddr, field, part, index, bN, bG, equal, cR, cD, dF, dK, dP, cE, List.getElem?_cons_succ, List.getElem?_cons_zero, List.append_eq, List.cons_append, List.nil_append, List.append_nil, List.length_cons, List.length_nil, Nat.reduceAdd, Nat.reduceSub, Nat.beq, Option.bind_some, nc0, nc1, Int.cast_ofNat_Int, cN, cM, cL, ↓reduceIte, Int.reduceEq, Int.reduceLT, Int.reduceLE, Int.reduceNe, Int.reduceAdd, Int.reduceSub, Int.reduceMul, Int.reduceNeg, Int.reduceGT, Int.reduceGE, ge_iff_le, gt_iff_lt, not_true_eq_false, not_false_eq_true, decide_not, decide_true, decide_false, Bool.not_true, Bool.not_false, Bool.and_true, Bool.true_and, Bool.and_false, Bool.false_and, Bool.or_true, Bool.true_or, Bool.or_false, Bool.false_or, and_true, true_and, and_self, Nat.zero_add, Nat.add_zero, Int.toNat_zero, Nat.zero_mul, wp_pure, beq_self_eq_true, bne_self_eq_false, reduceCtorEq, e2]
  exact e3
 ·simp only [xX, Try.f104, Option.getD_some, List.replicate, aB, bE, dE, u8, tyr, fgr, hkr, execOp, opd, bC, opt, ofValue, eE, ofList, dA, aC, put, nth, aA, aI, aD, builtin, dB, eT, eG, cW, min2, max2, blr, eI, eU, und, sizeOf, zeroOf, lenOf, bor, aJ, aY, aK, cJ, intOp, bR, strOp, dH, cP, slK, dQ, unOp, aW, branch, idx, bF, cellsOf, oneOf, eD, cel, alloc, cF, newRow, nilCheck, extract, aV, ended, aP, aQ, cO, dM, aO, fieldAddr, field, part, index, bN, bG, equal, cR, cD, dF, dK, dP, cE, List.getElem?_cons_succ, List.getElem?_cons_zero, List.append_eq, List.cons_append, List.nil_append, List.append_nil, List.length_cons, List.length_nil, Nat.reduceAdd, Nat.reduceSub, Nat.beq, Option.bind_some, nc0, nc1, Int.cast_ofNat_Int, cN, cM, cL, ↓reduceIte, Int.reduceEq, Int.reduceLT, Int.reduceLE, Int.reduceNe, Int.reduceAdd, Int.reduceSub, Int.reduceMul, Int.reduceNeg, Int.reduceGT, Int.reduceGE, ge_iff_le, gt_iff_lt, not_true_eq_false, not_false_eq_true, decide_not, decide_true, decide_false, Bool.not_true, Bool.not_false, Bool.and_true, Bool.true_and, Bool.and_false, Bool.false_and, Bool.or_true, Bool.true_or, Bool.or_false, Bool.false_or, and_true, true_and, and_self, Nat.zero_add, Nat.add_zero, Int.toNat_zero, Nat.zero_mul, wp_pure, beq_self_eq_true, bne_self_eq_false, reduceCtorEq, slice, bound, nR]
  refine wp_mono (yO (.inr (.inr ⟨id, off, c, rfl, hc1, hc2⟩)) hx hxc hv) fun v' h' n' ⟨e1, e2, e3⟩ => ?_
  subst e1
  simp only [aB, bE, dE, u8, tyr, fgr, hkr, execOp, opd, bC, opt, ofValue, eE, ofList, dA, aC, put, nth, aA, aI, aD, builtin, dB, eT, eG, cW, min2, max2, blr, eI, eU, und, sizeOf, zeroOf, lenOf, bor, aJ, aY, aK, cJ, intOp, bR, strOp, dH, cP, slK, dQ, unOp, aW, branch, idx, bF, cellsOf, oneOf, eD, cel, alloc, cF, newRow, nilCheck, extract, aV, ended, aP, aQ, cO, dM, aO, fieldAddr, field, part, index, bN, bG, equal, cR, cD, dF, dK, dP, cE, List.getElem?_cons_succ, List.getElem?_cons_zero, List.append_eq, List.cons_append, List.nil_append, List.append_nil, List.length_cons, List.length_nil, Nat.reduceAdd, Nat.reduceSub, Nat.beq, Option.bind_some, nc0, nc1, Int.cast_ofNat_Int, cN, cM, cL, ↓reduceIte, Int.reduceEq, Int.reduceLT, Int.reduceLE, Int.reduceNe, Int.reduceAdd, Int.reduceSub, Int.reduceMul, Int.reduceNeg, Int.reduceGT, Int.reduceGE, ge_iff_le, gt_iff_lt, not_true_eq_false, not_false_eq_true, decide_not, decide_true, decide_false, Bool.not_true, Bool.not_false, Bool.and_true, Bool.true_and, Bool.and_false, Bool.false_and, Bool.or_true, Bool.true_or, Bool.or_false, Bool.false_or, and_true, true_and, and_self, Nat.zero_add, Nat.add_zero, Int.toNat_zero, Nat.zero_mul, wp_pure, beq_self_eq_true, bne_self_eq_false, reduceCtorEq, e2]
  exact e3
theorem M4 : F0 env 104 128 nD.i := ⟨ZF, fun h n id len C k xid cells xc hh hC hl h0 hr hr2 hk h1 hx hxc hv hxn hin hne => f104 h n id len C k xid cells xc hh hC hl h0 hr hr2 hk h1 hx hxc hv hxn hin hne⟩
theorem QK : kH Try.prog 108 cZ := by
 refine A7 (E := env) fun args s v s' h ho => ?_
 have h0 := h
 unfold cZ at h0
 split at h0
 ·rename_i x y
  obtain ⟨e, hw⟩ := BN h ho
  refine ⟨e, ?_⟩
  refine bI Z4 Y2 ?_
  simp only [K2, Try.f108, Option.getD_some, List.replicate, aB, bE, dE, u8, tyr, fgr, hkr, execOp, opd, bC, opt, ofValue, eE, ofList, dA, aC, put, nth, aA, aI, aD, builtin, dB, eT, eG, cW, min2, max2, blr, eI, eU, und, sizeOf, zeroOf, lenOf, bor, aJ, aY, aK, cJ, intOp, bR, strOp, dH, cP, slK, dQ, unOp, aW, branch, idx, bF, cellsOf, oneOf, eD, cel, alloc, cF, newRow, nilCheck, extract, aV, ended, aP, aQ, cO, dM, aO, fieldAddr, field, part, index, bN, bG, equal, cR, cD, dF, dK, dP, cE, List.getElem?_cons_succ, List.getElem?_cons_zero, List.append_eq, List.cons_append, List.nil_append, List.append_nil, List.length_cons, List.length_nil, Nat.reduceAdd, Nat.reduceSub, Nat.beq, Option.bind_some, nc0, nc1, Int.cast_ofNat_Int, cN, cM, cL, ↓reduceIte, Int.reduceEq, Int.reduceLT, Int.reduceLE, Int.reduceNe, Int.reduceAdd, Int.reduceSub, Int.reduceMul, Int.reduceNeg, Int.reduceGT, Int.reduceGE, ge_iff_le, gt_iff_lt, not_true_eq_false, not_false_eq_true, decide_not, decide_true, decide_false, Bool.not_true, Bool.not_false, Bool.and_true, Bool.true_and, Bool.and_false, Bool.false_and, Bool.or_true, Bool.true_or, Bool.or_false, Bool.false_or, and_true, true_and, and_self, Nat.zero_add, Nat.add_zero, Int.toNat_zero, Nat.zero_mul, wp_pure, beq_self_eq_true, bne_self_eq_false, reduceCtorEq]
  refine wp_mono hw fun v' h' n' ⟨e1, e2, e3⟩ => ?_
  subst e1
  simp only [aB, bE, dE, u8, tyr, fgr, hkr, execOp, opd, bC, opt, ofValue, eE, ofList, dA, aC, put, nth, aA, aI, aD, builtin, dB, eT, eG, cW, min2, max2, blr, eI, eU, und, sizeOf, zeroOf, lenOf, bor, aJ, aY, aK, cJ, intOp, bR, strOp, dH, cP, slK, dQ, unOp, aW, branch, idx, bF, cellsOf, oneOf, eD, cel, alloc, cF, newRow, nilCheck, extract, aV, ended, aP, aQ, cO, dM, aO, fieldAddr, field, part, index, bN, bG, equal, cR, cD, dF, dK, dP, cE, List.getElem?_cons_succ, List.getElem?_cons_zero, List.append_eq, List.cons_append, List.nil_append, List.append_nil, List.length_cons, List.length_nil, Nat.reduceAdd, Nat.reduceSub, Nat.beq, Option.bind_some, nc0, nc1, Int.cast_ofNat_Int, cN, cM, cL, ↓reduceIte, Int.reduceEq, Int.reduceLT, Int.reduceLE, Int.reduceNe, Int.reduceAdd, Int.reduceSub, Int.reduceMul, Int.reduceNeg, Int.reduceGT, Int.reduceGE, ge_iff_le, gt_iff_lt, not_true_eq_false, not_false_eq_true, decide_not, decide_true, decide_false, Bool.not_true, Bool.not_false, Bool.and_true, Bool.true_and, Bool.and_false, Bool.false_and, Bool.or_true, Bool.true_or, Bool.or_false, Bool.false_or, and_true, true_and, and_self, Nat.zero_add, Nat.add_zero, Int.toNat_zero, Nat.zero_mul, wp_pure, beq_self_eq_true, bne_self_eq_false, reduceCtorEq]
  exact ⟨e2, e3⟩
 ·exact (aG h0).elim
def yL : List a9 → M a9
 | [a] => match a with
  | .ptr s off => match off.beq 0 with
   | true => (fI s).bind (cO fun c _ => match c with
     | .l cs => match cs with
      | [x, lv] => match x with
       | .ptr _ _ => match lv with
        | .nils => M.pure (.int .i64 (-1))
        | .sl _ _ len _ _ => match len.ble 1000000 with
         | true => M.pure (.int .i64 ((len : Nat) - 1))
         | false => fail "Tip"
        | _ => fail "Tip"
       | _ => fail "Tip"
      | _ => fail "Tip"
     | _ => fail "Tip")
   | false => fail "Tip"
  | _ => fail "Tip"
 | _ => fail "Tip"
theorem f66w (s x o : Nat) (lv : a9) (h : Hp) (n : Nat) (hr : Row h s [.ptr x o, lv]) : Wp (aZ env (evalW env) 66 [.ptr s 0]) h n fun v' h' n' => v' = .bool false ∧ h' = h ∧ n' = n := by
 refine bI UP UN ?_
 simp only [D4, Try.f66, Option.getD_some, List.replicate, aB, bE, dE, u8, tyr, fgr, hkr, execOp, opd, bC, opt, ofValue, eE, ofList, dA, aC, put, nth, aA, aI, aD, builtin, dB, eT, eG, cW, min2, max2, blr, eI, eU, und, sizeOf, zeroOf, lenOf, bor, aJ, aY, aK, cJ, intOp, bR, strOp, dH, cP, slK, dQ, unOp, aW, branch, idx, bF, cellsOf, oneOf, eD, cel, alloc, cF, newRow, nilCheck, extract, aV, ended, aP, aQ, cO, dM, aO, fieldAddr, field, part, index, bN, bG, equal, cR, cD, dF, dK, dP, cE, List.getElem?_cons_succ, List.getElem?_cons_zero, List.append_eq, List.cons_append, List.nil_append, List.append_nil, List.length_cons, List.length_nil, Nat.reduceAdd, Nat.reduceSub, Nat.beq, Option.bind_some, nc0, nc1, Int.cast_ofNat_Int, cN, cM, cL, ↓reduceIte, Int.reduceEq, Int.reduceLT, Int.reduceLE, Int.reduceNe, Int.reduceAdd, Int.reduceSub, Int.reduceMul, Int.reduceNeg, Int.reduceGT, Int.reduceGE, ge_iff_le, gt_iff_lt, not_true_eq_false, not_false_eq_true, decide_not, decide_true, decide_false, Bool.not_true, Bool.not_false, Bool.and_true, Bool.true_and, Bool.and_false, Bool.false_and, Bool.or_true, Bool.true_or, Bool.or_false, Bool.false_or, and_true, true_and, and_self, Nat.zero_add, Nat.add_zero, Int.toNat_zero, Nat.zero_mul, wp_pure, beq_self_eq_true, bne_self_eq_false, reduceCtorEq]
 rw [aN (hr.one (off := 0) rfl pV rfl)]
 simp only [aB, bE, dE, u8, tyr, fgr, hkr, execOp, opd, bC, opt, ofValue, eE, ofList, dA, aC, put, nth, aA, aI, aD, builtin, dB, eT, eG, cW, min2, max2, blr, eI, eU, und, sizeOf, zeroOf, lenOf, bor, aJ, aY, aK, cJ, intOp, bR, strOp, dH, cP, slK, dQ, unOp, aW, branch, idx, bF, cellsOf, oneOf, eD, cel, alloc, cF, newRow, nilCheck, extract, aV, ended, aP, aQ, cO, dM, aO, fieldAddr, field, part, index, bN, bG, equal, cR, cD, dF, dK, dP, cE, List.getElem?_cons_succ, List.getElem?_cons_zero, List.append_eq, List.cons_append, List.nil_append, List.append_nil, List.length_cons, List.length_nil, Nat.reduceAdd, Nat.reduceSub, Nat.beq, Option.bind_some, nc0, nc1, Int.cast_ofNat_Int, cN, cM, cL, ↓reduceIte, Int.reduceEq, Int.reduceLT, Int.reduceLE, Int.reduceNe, Int.reduceAdd, Int.reduceSub, Int.reduceMul, Int.reduceNeg, Int.reduceGT, Int.reduceGE, ge_iff_le, gt_iff_lt, not_true_eq_false, not_false_eq_true, decide_not, decide_true, decide_false, Bool.not_true, Bool.not_false, Bool.and_true, Bool.true_and, Bool.and_false, Bool.false_and, Bool.or_true, Bool.true_or, Bool.or_false, Bool.false_or, and_true, true_and, and_self, Nat.zero_add, Nat.add_zero, Int.toNat_zero, Nat.zero_mul, wp_pure, beq_self_eq_true, bne_self_eq_false, reduceCtorEq]
theorem ZE (s x o : Nat) (lv : a9) (k : Nat) (h : Hp) (n : Nat) (hr : Row h s [.ptr x o, lv]) (hl : cI env [57] lv = M.pure (.int .i64 (k : Nat))) (h1 : eD M8.i.desc = false) (hk : k ≤ 1000000) : Wp (aZ env (evalW env) 20 [.ptr s 0]) h n fun v' h' n' => v' = .int .i64 ((k : Nat) - 1) ∧ h' = h ∧ n' = n := by
 have w1 : IntKind.i64.wrap (((k : Nat) : Int) - 1) = ((k : Nat) : Int) - 1 := w64 (by omega) (by omega)
 refine bI ff20 fi20 ?_
 simp only [UI, Try.f20, Option.getD_some, List.replicate, aB, bE, dE, u8, tyr, fgr, hkr, execOp, opd, bC, opt, ofValue, eE, ofList, dA, aC, put, nth, aA, aI, aD, builtin, dB, eT, eG, cW, min2, max2, blr, eI, eU, und, sizeOf, zeroOf, lenOf, bor, aJ, aY, aK, cJ, intOp, bR, strOp, dH, cP, slK, dQ, unOp, aW, branch, idx, bF, cellsOf, oneOf, eD, cel, alloc, cF, newRow, nilCheck, extract, aV, ended, aP, aQ, cO, dM, aO, fieldAddr, field, part, index, bN, bG, equal, cR, cD, dF, dK, dP, cE, List.getElem?_cons_succ, List.getElem?_cons_zero, List.append_eq, List.cons_append, List.nil_append, List.append_nil, List.length_cons, List.length_nil, Nat.reduceAdd, Nat.reduceSub, Nat.beq, Option.bind_some, nc0, nc1, Int.cast_ofNat_Int, cN, cM, cL, ↓reduceIte, Int.reduceEq, Int.reduceLT, Int.reduceLE, Int.reduceNe, Int.reduceAdd, Int.reduceSub, Int.reduceMul, Int.reduceNeg, Int.reduceGT, Int.reduceGE, ge_iff_le, gt_iff_lt, not_true_eq_false, not_false_eq_true, decide_not, decide_true, decide_false, Bool.not_true, Bool.not_false, Bool.and_true, Bool.true_and, Bool.and_false, Bool.false_and, Bool.or_true, Bool.true_or, Bool.or_false, Bool.false_or, and_true, true_and, and_self, Nat.zero_add, Nat.add_zero, Int.toNat_zero, Nat.zero_mul, wp_pure, beq_self_eq_true, bne_self_eq_false, reduceCtorEq]
 refine dZ (f66w s x o lv h n hr) ?_
 simp only [aB, bE, dE, u8, tyr, fgr, hkr, execOp, opd, bC, opt, ofValue, eE, ofList, dA, aC, put, nth, aA, aI, aD, builtin, dB, eT, eG, cW, min2, max2, blr, eI, eU, und, sizeOf, zeroOf, lenOf, bor, aJ, aY, aK, cJ, intOp, bR, strOp, dH, cP, slK, dQ, unOp, aW, branch, idx, bF, cellsOf, oneOf, eD, cel, alloc, cF, newRow, nilCheck, extract, aV, ended, aP, aQ, cO, dM, aO, fieldAddr, field, part, index, bN, bG, equal, cR, cD, dF, dK, dP, cE, List.getElem?_cons_succ, List.getElem?_cons_zero, List.append_eq, List.cons_append, List.nil_append, List.append_nil, List.length_cons, List.length_nil, Nat.reduceAdd, Nat.reduceSub, Nat.beq, Option.bind_some, nc0, nc1, Int.cast_ofNat_Int, cN, cM, cL, ↓reduceIte, Int.reduceEq, Int.reduceLT, Int.reduceLE, Int.reduceNe, Int.reduceAdd, Int.reduceSub, Int.reduceMul, Int.reduceNeg, Int.reduceGT, Int.reduceGE, ge_iff_le, gt_iff_lt, not_true_eq_false, not_false_eq_true, decide_not, decide_true, decide_false, Bool.not_true, Bool.not_false, Bool.and_true, Bool.true_and, Bool.and_false, Bool.false_and, Bool.or_true, Bool.true_or, Bool.or_false, Bool.false_or, and_true, true_and, and_self, Nat.zero_add, Nat.add_zero, Int.toNat_zero, Nat.zero_mul, wp_pure, beq_self_eq_true, bne_self_eq_false, reduceCtorEq]
 rw [aN (hr.one (off := 1) rfl qL rfl)]
 simp only [aB, bE, dE, u8, tyr, fgr, hkr, execOp, opd, bC, opt, ofValue, eE, ofList, dA, aC, put, nth, aA, aI, aD, builtin, dB, eT, eG, cW, min2, max2, blr, eI, eU, und, sizeOf, zeroOf, lenOf, bor, aJ, aY, aK, cJ, intOp, bR, strOp, dH, cP, slK, dQ, unOp, aW, branch, idx, bF, cellsOf, oneOf, eD, cel, alloc, cF, newRow, nilCheck, extract, aV, ended, aP, aQ, cO, dM, aO, fieldAddr, field, part, index, bN, bG, equal, cR, cD, dF, dK, dP, cE, List.getElem?_cons_succ, List.getElem?_cons_zero, List.append_eq, List.cons_append, List.nil_append, List.append_nil, List.length_cons, List.length_nil, Nat.reduceAdd, Nat.reduceSub, Nat.beq, Option.bind_some, nc0, nc1, Int.cast_ofNat_Int, cN, cM, cL, ↓reduceIte, Int.reduceEq, Int.reduceLT, Int.reduceLE, Int.reduceNe, Int.reduceAdd, Int.reduceSub, Int.reduceMul, Int.reduceNeg, Int.reduceGT, Int.reduceGE, ge_iff_le, gt_iff_lt, not_true_eq_false, not_false_eq_true, decide_not, decide_true, decide_false, Bool.not_true, Bool.not_false, Bool.and_true, Bool.true_and, Bool.and_false, Bool.false_and, Bool.or_true, Bool.true_or, Bool.or_false, Bool.false_or, and_true, true_and, and_self, Nat.zero_add, Nat.add_zero, Int.toNat_zero, Nat.zero_mul, wp_pure, beq_self_eq_true, bne_self_eq_false, reduceCtorEq, hl, w1]
theorem WO : kH Try.prog 20 yL := by
 refine A7 (E := env) fun args s v s' h ho => ?_
 unfold yL at h
 split at h
 case h_2 => exact (aG h).elim
 rename_i a
 split at h
 case h_2 => exact (aG h).elim
 rename_i p off
 split at h
 case h_2 => exact (aG h).elim
 rename_i hoff
 have hoff := Nat.eq_of_beq_eq_true hoff
 subst hoff
 obtain ⟨b, s1, h1, h2⟩ := M.aM h
 obtain ⟨hg, e1⟩ := dX h1
 cases b with
 | row c t =>
  simp only [cO] at h2
  split at h2
  case h_2 => exact (aG h2).elim
  rename_i cs
  split at h2
  case h_2 => exact (aG h2).elim
  rename_i x lv
  split at h2
  case h_2 => exact (aG h2).elim
  rename_i xi xo
  split at h2
  ·obtain ⟨rfl, rfl⟩ := aE h2
   exact ⟨e1, ZE p xi xo .nils 0 _ _ ⟨t, hg⟩ rfl rfl (by omega)⟩
  ·rename_i i o len cap sz
   split at h2
   ·rename_i hle
    obtain ⟨rfl, rfl⟩ := aE h2
    exact ⟨e1, ZE p xi xo _ len _ _ ⟨t, hg⟩ rfl rfl (Nat.le_of_ble_eq_true hle)⟩
   ·exact (aG h2).elim
  ·exact (aG h2).elim
 | _ => exact (aG h2).elim
end Go.Am.Ytlgebaofkolkoaa.Ins
