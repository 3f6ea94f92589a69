/- The functions that the statement reaches, gone through. -/
import Derived.Test.YtlgebaofkolkoaaSuB
set_option linter.unusedSimpArgs false
set_option linter.unusedVariables false
set_option linter.defProp false
set_option maxRecDepth 10000
namespace Go.Am.Ytlgebaofkolkoaa
open Go Go.Am Go.Proofs
theorem f111 (v : a9) (l : List UInt8) (h : Hp) (n : Nat) (hb : Bytes h v l) (hl : l.length ≤ 1000000) (hf : bK h n) : Wp (aZ env (evalW env) 111 [v]) h n fun v' h' n' => Bytes h' v' l ∧ (∀ j, bD v' = some j → n ≤ j ∧ j < n') ∧ Old h h' n := by
 refine bI Z2 Y0 ?_
 simp only [K0, Try.f111, Option.getD_some, List.replicate, aB, fgr, execOp, opd, bC, ofValue, aC, put, nth, aA, aI, builtin, eT, ended, aP, aQ, Nat.reduceSub, gL, gI]
 refine fZ (i := ⟨.int .u8, 1, 1, .int .u8 0⟩) (e := 5) (cnt := 0) (xs := []) .nil hb.rds t29 t29 ti5 (sE l) (by decide) (by show 2 * (0 + l.length) * 1 ≤ _; omega) (by omega) hf ?_
 intro v' h' n' hn hf' ho hid hold
 simp only [aB, fgr, execOp, opd, aC, put, nth, aA, gB]
 rw [List.nil_append] at ho
 refine ⟨ho.rds.bytes (by intro e; subst e; cases ho), fun j hj => ?_, fun j hj => hold j hj (fun e => by cases e)⟩
 rcases hid with q | ⟨q, q2⟩
 ·rw [q] at hj; cases hj
 ·rw [q] at hj; injection hj with hj; omega
theorem yJ {A : App} {mv sv x : a9} (hb : A.block.length = 32) : bX (bH A mv sv) 33 [x] = bH A x sv := by
 have e : bH A mv sv = (.int .i64 A.height :: A.block.map u8) ++ ([mv] ++ [sv, .int .i64 A.burnt, .int .i64 A.left]) := by simp [bH]
 rw [e, jE (mid := [mv]) (vs := [x]) (by simp [hb]) rfl]
 simp [bH]
theorem yI {A : App} {mv sv x : a9} (hb : A.block.length = 32) : bX (bH A mv sv) 34 [x] = bH A mv x := by
 have e : bH A mv sv = (.int .i64 A.height :: A.block.map u8 ++ [mv]) ++ ([sv] ++ [.int .i64 A.burnt, .int .i64 A.left]) := by simp [bH]
 rw [e, jE (mid := [sv]) (vs := [x]) (by simp [hb]) rfl]
 simp [bH]
theorem SJ (Q : eB) (ks : List Kf) (A : App) (mv sv : a9) (xs : List a9) (hm : C3 mv A.made xs) (hb : A.block.length = 32) (hl : A.made.length ≤ 1000000) (hsl : ∀ v ∈ A.made, v.script.length ≤ 1000000) (n : Nat) (et0 : TypeId) (H : Hp) (hr : Row H n (bH A mv sv))
  (hT : ∀ (h : Hp) (m : Nat) (acc : a9) (cells : List a9) (x0 x5 x13 : a9), h (n + 1 + 1) = some (.row (.l (bH A acc .nils)) et0) → Lst h 31 70 acc A.made.length cells → Vs h (fun j => n + 1 + 1 + 1 ≤ j ∧ j < m ∧ bD acc ≠ some j) cells A.made → (∀ j, bD acc = some j → n + 1 + 1 + 1 ≤ j) → (∀ j, j < n + 1 + 1 → h j = H j) → n + 1 + 1 + 1 ≤ m → bK h m →
   dL env 96 none Q ks (.exit 0) (x0 :: .ptr n 0 :: .ptr (n + 1) 0 :: .ptr (n + 1 + 1) 0 :: .int .i64 (A.made.length : Nat) :: x5 :: a9.junk :: a9.junk :: a9.junk :: a9.junk :: a9.junk :: a9.junk :: a9.junk :: x13 :: a9.junk :: a9.junk :: a9.junk :: a9.junk :: a9.junk :: a9.junk :: a9.junk :: a9.junk :: a9.junk :: a9.junk :: a9.junk :: a9.junk :: a9.junk :: a9.junk :: a9.junk :: a9.junk :: a9.junk :: a9.junk :: a9.junk :: a9.junk :: a9.junk :: a9.junk :: a9.junk :: a9.junk :: []) h m) :
  ∀ (k i : Nat) (h : Hp) (m : Nat) (acc : a9) (cells : List a9) (x0 x5 x13 : a9), i + k = A.made.length → h (n + 1 + 1) = some (.row (.l (bH A acc .nils)) et0) → Lst h 31 70 acc i cells → Vs h (fun j => n + 1 + 1 + 1 ≤ j ∧ j < m ∧ bD acc ≠ some j) cells (A.made.take i) → (∀ j, bD acc = some j → n + 1 + 1 + 1 ≤ j) → (∀ j, j < n + 1 + 1 → h j = H j) → n + 1 + 1 + 1 ≤ m → bK h m →
   Run env 96 none Q (.loop CL) ks (x0 :: .ptr n 0 :: .ptr (n + 1) 0 :: .ptr (n + 1 + 1) 0 :: .int .i64 (i : Nat) :: x5 :: a9.junk :: a9.junk :: a9.junk :: a9.junk :: a9.junk :: a9.junk :: a9.junk :: x13 :: a9.junk :: a9.junk :: a9.junk :: a9.junk :: a9.junk :: a9.junk :: a9.junk :: a9.junk :: a9.junk :: a9.junk :: a9.junk :: a9.junk :: a9.junk :: a9.junk :: a9.junk :: a9.junk :: a9.junk :: a9.junk :: a9.junk :: a9.junk :: a9.junk :: a9.junk :: a9.junk :: a9.junk :: []) h m := by
 intro k
 induction k with
 | zero =>
  intro i h m acc cells x0 x5 x13 hk h3 la va ia ho hnm hf
  have : i = A.made.length := by omega
  subst this
  rw [List.take_length] at va
  have hc : ¬ ((A.made.length : Nat) : Int) < ((A.made.length : Nat) : Int) := by omega
  have rn := hr.aT (ho n (by omega))
  rw [bZ]
  simp only [CL, bO, Try.f96, Option.getD_some, aB, tyr, execOp, opd, aC, put, nth, und, sizeOf, aV, aO, fieldAddr, List.getD_cons_zero, gL, gI]
  rw [aN (m8 rn hb)]
  simp only [aB, fgr, execOp, opd, bC, aC, put, nth, aA, aI, builtin, dB, bor, aJ, aK, intOp, (hm.rd h).cI u43, hc, gB]
  exact hT h m acc cells _ _ _ h3 la va ia ho hnm hf
 | succ k ih =>
  intro i h m acc cells x0 x5 x13 hk h3 la va ia ho hnm hf
  have hil : i < A.made.length := by omega
  have hc : ((i : Nat) : Int) < ((A.made.length : Nat) : Int) := by omega
  have w1 : IntKind.i64.wrap (((i : Nat) : Int) + 1) = ((i + 1 : Nat) : Int) := by rw [w64 (by omega) (by omega)]; omega
  have rn := hr.aT (ho n (by omega))
  obtain ⟨sw, e, hv⟩ := hm.at_ i hil
  have hsv := hsl _ (List.getElem_mem hil)
  have htk : A.made.take (i + 1) = A.made.take i ++ [A.made[i]] := mA hil
  have hlx : xs.length = A.made.length * 70 := (hm.rd h).length
  have hld : ∀ n', Rd (load env 31 (addrOf (i * 70) mv)) h n' (rid mv) (.agg (aS A.made[i] sw)) := fun n' => by
   have := (hm.rd h).agg (E := env) (n := n') (k := i * 70) eX rfl (by decide) (by show i * 70 + 70 ≤ _; omega)
   have e' : (xs.drop (i * 70)).take 70 = aS A.made[i] sw := e
   exact e' ▸ this
  generalize A.made[i] = v at *
  rw [bZ]
  simp only [CL, bO, Try.f96, Option.getD_some, aB, tyr, execOp, opd, aC, put, nth, und, sizeOf, aV, aO, fieldAddr, List.getD_cons_zero, gL, gI]
  rw [aN (m8 rn hb)]
  simp only [aB, tyr, fgr, execOp, opd, bC, aC, put, nth, aA, aI, builtin, dB, und, sizeOf, bor, aJ, aK, intOp, aV, aO, fieldAddr, (hm.rd h).cI u43, hc, gL, gB, gI]
  rw [aN (m8 rn hb)]
  simp only [aB, execOp, opd, aC, put, nth]
  rw [aN ((hm.rd h).idx (j := i) u43 HA rfl hil)]
  simp only [aB, execOp, opd, aC, put, nth]
  rw [aN (hld m)]
  simp only [aB, execOp, aC, put]
  rw [cG eX rfl]
  simp only [aB, execOp, opd, aC, put, nth, cel]
  have kd := (hv.s.bytes h).kind
  refine dW (v := .agg (aS v sw)) eX rfl (bV hv.ok.h hv.ok.b) (dV kd.2.1) hf fun H1 r1 p1 f1 => ?_
  replace r1 : Row H1 m (aS v sw) := r1
  simp only [aB, tyr, fgr, execOp, opd, aC, put, nth, aA, und, sizeOf, aV, aO, fieldAddr, gL, gI]
  rw [aN (iB r1 hv.ok)]
  simp only [aB, hkr, execOp, opd, bC, aC, put, nth, aI, aD, gL]
  refine bB f1 (f111 sw v.script H1 (m + 1) (hv.s.bytes H1) hsv f1) fun v2 h2 n2 hn2 f2 ⟨b2, i2, o2⟩ => ?_
  obtain ⟨et, g2⟩ := r1.aT (o2 m (by omega))
  simp only [aB, tyr, execOp, opd, aC, put, nth, und, sizeOf, aV, aO, fieldAddr, gL, gI]
  rw [eC (Row.write (off := 35) (v := v2) g2 tK (by rw [b2.kind.1]; rfl) (by rw [bV hv.ok.h hv.ok.b]; show 35 + 1 ≤ 70; omega) (by rw [b2.kind.1]; simp [b2.kind.2.1]))]
  rw [b2.kind.1, xG hv.ok.h]
  obtain ⟨h3', hh3⟩ : ∃ h3', h3' = upd h2 m (some (.row (.l (aS v v2)) et)) := ⟨_, rfl⟩
  rw [← hh3]
  have r3 : Row h3' m (aS v v2) := ⟨et, by rw [hh3, aU]⟩
  have o3 : ∀ j, j ≠ m → h3' j = h2 j := fun j hj => by rw [hh3, aR _ _ hj]
  have f3 : bK h3' n2 := by rw [hh3]; exact f2.upd (by omega)
  clear hh3
  have oA : ∀ j, j < m → h3' j = h j := fun j hj => by rw [o3 j (by omega), o2 j (by omega), p1 j (by omega)]
  have t3 : h3' (n + 1 + 1) = some (.row (.l (bH A acc .nils)) et0) := (oA _ (by omega)).trans h3
  simp only [aB, tyr, fgr, execOp, opd, aC, put, nth, aA, und, sizeOf, aV, aO, fieldAddr, gL, gI]
  rw [aN (m8 (A := A) (mv := acc) (sv := .nils) ⟨et0, t3⟩ hb)]
  simp only [aB, execOp, opd, aC, put, nth]
  rw [aN (fS r3 hv.ok)]
  simp only [aB, execOp, opd, dA, aC, put, nth, OB (bV hv.ok.h hv.ok.b)]
  refine j6 eX f3 (f := fun id => a9.sl id 0 1 (some 1) 70) fun H4 g4 o4 f4 => ?_
  simp only [aB, execOp, opd, bC, aC, put, nth, aI, builtin, eT]
  have accl : ∀ j, bD acc = some j → j < m := fun j q => la.live hf q
  have oB : ∀ j, j < m → H4 j = h j := fun j hj => by rw [o4 j (by omega), oA j hj]
  have la4 := la.aT (h' := H4) fun j q => oB j (accl j q)
  refine fZ (i := fD.i) (e := 31) la4 (qQ (cnt := 1) g4 (by rw [bV hv.ok.h hv.ok.b]; rfl)) u43 u43 eX (dV b2.kind.2.1) (by decide) (by show 2 * (i + 1) * 128 ≤ _; omega) (by omega) f4 ?_
  intro acc' h5 n5 hn5 f5 l5 i5 o5
  have i5' : ∀ j, bD acc' = some j → n + 1 + 1 + 1 ≤ j := fun j q => by
   rcases i5 with w | ⟨w, _⟩
   ·rw [w] at q; exact ia j q
   ·rw [w] at q; injection q with q; omega
  have hne : ∀ j, j < n2 + 1 → bD acc ≠ some j → bD acc' ≠ some j := fun j hj hn q => by
   rcases i5 with w | ⟨w, _⟩
   ·rw [w] at q; exact hn q
   ·rw [w] at q; injection q with q; omega
  have t5 : h5 (n + 1 + 1) = some (.row (.l (bH A acc .nils)) et0) := by rw [o5 _ (by omega) (fun q => by have := ia _ q; omega), oB _ (by omega)]; exact h3
  have ka : acc'.cells = [acc'] ∧ bJ acc' = true := ⟨l5.rds.kind.1, l5.rds.kind.2.1⟩
  simp only [aB, tyr, execOp, opd, aC, put, nth, und, sizeOf, aV, aO, fieldAddr, gL, gI]
  rw [eC (Row.write (off := 33) (v := acc') t5 sG (by rw [ka.1]; rfl) (by rw [cH hb]; show 33 + 1 ≤ 37; omega) (by rw [ka.1]; simp [ka.2]))]
  rw [ka.1, yJ hb]
  obtain ⟨h6, hh6⟩ : ∃ h6, h6 = upd h5 (n + 1 + 1) (some (.row (.l (bH A acc' .nils)) et0)) := ⟨_, rfl⟩
  rw [← hh6]
  have g6 : h6 (n + 1 + 1) = some (.row (.l (bH A acc' .nils)) et0) := by rw [hh6, aU]
  have o6 : ∀ j, j ≠ n + 1 + 1 → h6 j = h5 j := fun j hj => by rw [hh6, aR _ _ hj]
  have f6 : bK h6 n5 := by rw [hh6]; exact f5.upd (by omega)
  clear hh6
  have an : ∀ j, m ≤ j → bD acc ≠ some j := fun j hj q => by have := accl j q; omega
  have va6 := va.mono (h' := h6) (D' := fun j => n + 1 + 1 + 1 ≤ j ∧ j < n5 ∧ bD acc' ≠ some j) (fun j q => ⟨q.1, by omega, hne j (by omega) q.2.2⟩) (fun j q => by rw [o6 j (by omega), o5 j (by omega) q.2.2, oB j q.2.1])
  have b6 : Bytes h6 v2 v.script := b2.aT fun j q => by
   have := i2 j q
   rw [o6 j (by omega), o5 j (by omega) (an j (by omega)), o4 j (by omega), o3 j (by omega)]
  have va7 := va6.snoc b6 hv.ok (fun j q => by have := i2 j q; exact ⟨by omega, by omega, hne j (by omega) (an j (by omega))⟩)
  rw [← htk] at va7
  simp only [aB, fgr, execOp, opd, ofValue, aC, put, nth, aA, bor, aJ, aK, intOp, bR, w1, gB]
  exact ih (i + 1) h6 n5 acc' _ _ _ _ (by omega) g6 (l5.aT fun j q => o6 j (by have := i5' j q; omega)) va7 i5' (fun j hj => by rw [o6 j (by omega), o5 j (by omega) (fun q => by have := ia j q; omega), oB j (by omega), ho j hj]) (by omega) f6
def pP : App := ⟨0, z32, [], [], 0, 0⟩
theorem QG {a : a9} {ss : List Spd} {xs : List a9} (h : F6 a ss xs) : xs.all bJ = true := by
 rw [List.all_eq_true]
 intro c hc
 obtain ⟨k, hk, rfl⟩ := List.mem_iff_getElem.1 hc
 have hl : xs.length = ss.length * 65 := (h.rd (fun _ => none)).length
 have hj : k / 65 < ss.length := by omega
 have e := (h.at_ (k / 65) hj).1
 have hp := piece e (i := k % 65) (by omega)
 rw [show k / 65 * 65 + k % 65 = k by omega, List.getElem?_eq_getElem hk] at hp
 exact List.all_eq_true.1 (pX ss[k / 65]) _ (List.mem_of_getElem? hp.symm)
theorem f96 (A : App) (mv sv : a9) (h : Hp) (n : Nat) (ha : qJ A mv sv) (hl : A.made.length ≤ 1000000) (hl2 : A.spends.length ≤ 1000000) (hsl : ∀ v ∈ A.made, v.script.length ≤ 1000000) (hf : bK h n) :
  Wp (aZ env (evalW env) 96 [.agg (bH A mv sv)]) h n fun v' h' n' => ∃ mv' sv', v' = .agg (bH A mv' sv') ∧ jD h' n n' A mv' sv' ∧ Old h h' n := by
 obtain ⟨⟨xs, hm⟩, ⟨ys, hss⟩, hb⟩ := ha
 have km := (hm.rd h).kind
 have ks := (hss.rd h).kind
 refine bI ff96 fi96 ?_
 simp only [T5, Try.f96, Option.getD_some, List.replicate, aB, execOp, opd, nth, ended, aP, aQ, Nat.reduceSub, gL, gI]
 refine dC (v := .agg (bH A mv sv)) lO rfl hf fun H1 r1 o1 f1 => ?_
 replace r1 : Row H1 n (bH A mv sv) := r1
 simp only [aB, execOp, aC, put]
 rw [cG lO rfl]
 obtain ⟨H2, hH2⟩ : ∃ H2, H2 = upd H1 (n + 1) (some (.row (.l (bH pP .nils .nils)) 46)) := ⟨_, rfl⟩
 have g2 : H2 (n + 1) = some (.row (.l (bH pP .nils .nils)) 46) := by rw [hH2, aU]
 have o2 : ∀ j, j ≠ n + 1 → H2 j = H1 j := fun j hj => by rw [hH2, aR _ _ hj]
 have f2 : bK H2 (n + 1 + 1) := by rw [hH2]; exact f1.new
 show Ops _ _ _ _ _ _ _ _ (upd H1 (n + 1) (some (.row (.l (bH pP .nils .nils)) 46))) _
 rw [← hH2]
 clear hH2
 have r2 := r1.aT (o2 n (by omega))
 simp only [aB, fgr, execOp, opd, aC, put, nth, aA]
 rw [aN (lM r2 hb)]
 simp only [aB, execOp, aC, put]
 rw [cG lO rfl]
 simp only [aB, execOp, opd, aC, put, nth, cel]
 refine dW (v := .agg (bH A mv sv)) lO rfl (cH hb) (jN km.2.1 ks.2.1) f2 fun H3 r3 o3 f3 => ?_
 obtain ⟨et, g3⟩ : Row H3 (n + 1 + 1) (bH A mv sv) := r3
 simp only [aB, tyr, fgr, execOp, opd, ofValue, aC, put, nth, aA, und, sizeOf, aV, aO, fieldAddr, gL, gI]
 rw [eC (Row.write (off := 33) (v := .nils) g3 sG rfl (by rw [cH hb]; show 33 + 1 ≤ 37; omega) rfl)]
 rw [show bX (bH A mv sv) 33 (a9.nils).cells = bH A .nils sv from yJ hb]
 obtain ⟨H4, hH4⟩ : ∃ H4, H4 = upd H3 (n + 1 + 1) (some (.row (.l (bH A .nils sv)) et)) := ⟨_, rfl⟩
 rw [← hH4]
 have g4 : H4 (n + 1 + 1) = some (.row (.l (bH A .nils sv)) et) := by rw [hH4, aU]
 have o4 : ∀ j, j ≠ n + 1 + 1 → H4 j = H3 j := fun j hj => by rw [hH4, aR _ _ hj]
 have f4 : bK H4 (n + 1 + 1 + 1) := by rw [hH4]; exact f3.upd (by omega)
 clear hH4
 simp only [aB, tyr, fgr, execOp, opd, ofValue, aC, put, nth, aA, und, sizeOf, aV, aO, fieldAddr, gL, gI]
 rw [eC (Row.write (off := 34) (v := .nils) g4 CA rfl (by rw [cH hb]; show 34 + 1 ≤ 37; omega) rfl)]
 rw [show bX (bH A .nils sv) 34 (a9.nils).cells = bH A .nils .nils from yI hb]
 obtain ⟨H5, hH5⟩ : ∃ H5, H5 = upd H4 (n + 1 + 1) (some (.row (.l (bH A .nils .nils)) et)) := ⟨_, rfl⟩
 rw [← hH5]
 have g5 : H5 (n + 1 + 1) = some (.row (.l (bH A .nils .nils)) et) := by rw [hH5, aU]
 have o5 : ∀ j, j ≠ n + 1 + 1 → H5 j = H2 j := fun j hj => by rw [hH5, aR _ _ hj, o4 j hj, o3 j hj]
 have f5 : bK H5 (n + 1 + 1 + 1) := by rw [hH5]; exact f4.upd (by omega)
 clear hH5
 have rn5 : Row H5 n (bH A mv sv) := r2.aT (o5 n (by omega))
 simp only [aB, fgr, execOp, opd, ofValue, aC, put, aA]
 refine SJ _ _ A mv sv xs hm hb hl hsl n et H5 rn5 ?_ A.made.length 0 H5 (n + 1 + 1 + 1) .nils [] _ _ _ (by omega) g5 .nil (Vs.nil _ _) (fun j q => by cases q) (fun j _ => rfl) (Nat.le_refl _) f5
 intro h6 m6 acc cells x0 x5 x13 g6 l6 v6 i6 o6 hn6 f6
 have rn6 : Row h6 n (bH A mv sv) := rn5.aT (o6 n (by omega))
 simp only [aB, tyr, execOp, opd, aC, put, nth, und, sizeOf, aV, aO, fieldAddr, gL, gI]
 rw [aN (sU (A := A) (mv := acc) (sv := .nils) ⟨et, g6⟩ hb)]
 simp only [aB, tyr, execOp, opd, aC, put, nth, und, sizeOf, aV, aO, fieldAddr, gL, gI]
 rw [aN (sU rn6 hb)]
 simp only [aB, execOp, opd, bC, aC, put, nth, aI, builtin, eT]
 refine fZ (i := yP.i) (e := 48) (cnt := 0) (xs := []) .nil (hss.rd h6) u44 u44 wS (QG hss) (by decide) (by show 2 * (0 + A.spends.length) * 68 ≤ _; omega) (by omega) f6 ?_
 intro s7 h7 n7 hn7 f7 l7 i7 o7
 have i7' : ∀ j, bD s7 = some j → m6 ≤ j := fun j q => by
  rcases i7 with w | ⟨w, _⟩
  ·rw [w] at q; cases q
  ·rw [w] at q; injection q with q; omega
 have o7' : ∀ j, j < m6 → h7 j = h6 j := fun j hj => o7 j hj (fun q => by cases q)
 have g7 : h7 (n + 1 + 1) = some (.row (.l (bH A acc .nils)) et) := (o7' _ (by omega)).trans g6
 have k7 : s7.cells = [s7] ∧ bJ s7 = true := ⟨l7.rds.kind.1, l7.rds.kind.2.1⟩
 have ka : bJ acc = true := l6.rds.kind.2.1
 simp only [aB, tyr, execOp, opd, aC, put, nth, und, sizeOf, aV, aO, fieldAddr, gL, gI]
 rw [eC (Row.write (off := 34) (v := s7) g7 CA (by rw [k7.1]; rfl) (by rw [cH hb]; show 34 + 1 ≤ 37; omega) (by rw [k7.1]; simp [k7.2]))]
 rw [k7.1, yI hb]
 obtain ⟨h8, hh8⟩ : ∃ h8, h8 = upd h7 (n + 1 + 1) (some (.row (.l (bH A acc s7)) et)) := ⟨_, rfl⟩
 rw [← hh8]
 have g8 : h8 (n + 1 + 1) = some (.row (.l (bH A acc s7)) et) := by rw [hh8, aU]
 have o8 : ∀ j, j ≠ n + 1 + 1 → h8 j = h7 j := fun j hj => by rw [hh8, aR _ _ hj]
 clear hh8
 simp only [aB, fgr, execOp, opd, aC, nth, aA]
 rw [aN (lM (A := A) (mv := acc) (sv := s7) ⟨et, g8⟩ hb)]
 simp only [aB, execOp, opd, aC, put, nth]
 have b8 : h8 (n + 1) = some (.row (.l (bH pP .nils .nils)) 46) := by rw [o8 _ (by omega), o7' _ (by omega), o6 _ (by omega), o5 _ (by omega)]; exact g2
 rw [eC (Row.write (off := 0) (v := .agg (bH A acc s7)) b8 lO (cH hb) (by show 0 + 37 ≤ 37; omega) (jN ka k7.2))]
 rw [eN (by show (bH _ _ _).length = _; rw [cH hb]; rfl)]
 simp only [aB, fgr, aC, nth, aA, cel, true_and]
 refine eV (Row.whole (cs := bH A acc s7) ⟨46, aU _ _ _⟩ lO rfl (cH hb)) (wp_pure.2 ?_)
 have oZ : ∀ (b : Option Blk), ∀ j, n + 1 + 1 + 1 ≤ j → upd h8 (n + 1) b j = h7 j := fun b j hj => by rw [aR _ _ (by omega), o8 j (by omega)]
 refine ⟨acc, s7, rfl, ⟨⟨cells, l6.aT fun j q => ?_, v6.mono (fun j q => ⟨by omega, by omega, q.2.2⟩) (fun j q => ?_), fun j q => ?_⟩, ⟨ys, ?_, fun j hj => ?_, fun j q => ?_⟩, hb, hl, hl2⟩, fun j hj => ?_⟩
 ·have := l6.live f6 q
  rw [oZ _ j (i6 j q), o7' j this]
 ·rw [oZ _ j q.1, o7' j q.2.1]
 ·have := l6.live f6 q
  exact ⟨by have := i6 j q; omega, by omega⟩
 ·rw [Nat.zero_add, List.nil_append] at l7
  exact l7.aT fun j q => oZ _ j (by have := i7' j q; omega)
 ·exact ⟨(hss.at_ j hj).1, (hss.at_ j hj).2.1⟩
 ·have := l7.live f7 q
  exact ⟨by have := i7' j q; omega, this⟩
 ·rw [aR _ _ (by omega), o8 j (by omega), o7' j (by omega), o6 j (by omega), o5 j (by omega), o2 j (by omega), o1 j (by omega)]
def atH (z : Int) (v : Ver) : Ver := { v with made := z }
theorem C7 {w : Ver} {sv : a9} (h : w.hash.length = 32) (z : Int) : bX (aS w sv) 33 [.int .i64 z] = aS (atH z w) sv := by
 have e : aS w sv = aX w.hash w.pn ++ ([.int .i64 w.made] ++ ([.int .i64 w.value, sv, .bool w.base, .int .i64 w.spent] ++ w.by_.map u8)) := by simp [aS, kP]
 rw [e, jE (mid := [.int .i64 w.made]) (vs := [.int .i64 z]) (bY h) rfl]
 simp [aS, kP, atH]
theorem uM {xs : List a9} {a : Nat} {y : a9} (h : a < xs.length) : bX xs a [y] = xs.set a y := by
 unfold bX
 rw [List.set_eq_take_append_cons_drop, if_pos h]
 simp
theorem VL.made {h : Hp} {n a b : Nat} {v : a9} {vs : List Ver} (l : VL h a b v vs) {i : Nat} (hi : i < vs.length) (z : Int) :
  ∃ rs ws h2, Wr (kF env 3 (addrOf (i * 70 + 33) v) (.int .i64 z)) h n rs ws undef h2 ∧ VL h2 a b v (vs.modify i (atH z)) ∧ ∀ j, bD v ≠ some j → h2 j = h j := by
 obtain ⟨cells, c1, c2, c3⟩ := l
 obtain ⟨id, cap, cs, rfl, hh, hl, hc, hx⟩ := c1.inv (by omega)
 have hw := Row.write (E := env) (n := n) (off := 0 + (i * 70 + 33)) (v := .int .i64 z) hh ti3 rfl (by show 0 + (i * 70 + 33) + 1 ≤ cs.length; omega) rfl
 have es : bX cs (0 + (i * 70 + 33)) (a9.int .i64 z).cells = cs.set (i * 70 + 33) (.int .i64 z) := by
  rw [Nat.zero_add]
  exact uM (by omega)
 rw [es] at hw
 have hcl : cells.length = vs.length * 70 := c1.rds.length
 refine ⟨_, _, _, hw, ⟨cells.set (i * 70 + 33) (.int .i64 z), ?_, ⟨by rw [List.length_set, List.length_modify]; exact hcl, fun j hj => ?_⟩, c3⟩, fun j q => aR _ _ (fun e => q (by rw [e]; rfl))⟩
 ·rw [List.length_modify]
  refine .sl id _ cap (cs.set (i * 70 + 33) (.int .i64 z)) _ (aU _ _ _) (by rw [List.length_set]; exact hl) (fun k q => by rw [List.length_set]; exact hc k q) ?_
  rw [List.take_set, hx]
 ·rw [List.length_modify] at hj
  obtain ⟨sv, e, bb, o, d⟩ := c2.at_ j hj
  rw [List.getElem_modify]
  have bb' : Bytes (upd h id (some (.row (.l (cs.set (i * 70 + 33) (.int .i64 z))) 31))) sv vs[j].script := bb.aT fun k q => aR _ _ (fun e => (d k q).2.2 (by rw [e]; rfl))
  by_cases c : i = j
  ·subst c
   rw [if_pos rfl]
   refine ⟨sv, ?_, bb', ⟨o.h, o.b⟩, d⟩
   rw [List.drop_set, if_neg (by omega), List.take_set, e, show i * 70 + 33 - i * 70 = 33 by omega, ← uM (by rw [bV o.h o.b]; omega)]
   exact C7 o.h z
  ·rw [if_neg c]
   refine ⟨sv, ?_, bb', o, d⟩
   rw [← e]
   refine List.ext_getElem (by simp) fun k k1 k2 => ?_
   rw [List.getElem_take, List.getElem_take, List.getElem_drop, List.getElem_drop, List.getElem_set, if_neg]
   rw [List.length_take] at k1
   omega
theorem CJ (vs : List Ver) (f : Ver → Ver) {i : Nat} (hi : i < vs.length) : ((vs.take i).map f ++ vs.drop i).modify i f = (vs.take (i + 1)).map f ++ vs.drop (i + 1) := by
 refine List.ext_getElem? fun k => ?_
 rw [List.getElem?_modify]
 have e1 : ((vs.take i).map f).length = i := by rw [List.length_map, List.length_take]; omega
 have e2 : ((vs.take (i + 1)).map f).length = i + 1 := by rw [List.length_map, List.length_take]; omega
 rcases Nat.lt_trichotomy k i with c | c | c
 ·rw [List.getElem?_append_left (by omega), List.getElem?_append_left (by omega), List.getElem?_map, List.getElem?_map, List.getElem?_take_of_lt c, List.getElem?_take_of_lt (by omega)]
  simp only [if_neg (show ¬ i = k by omega)]
  cases vs[k]? <;> rfl
 ·subst c
  rw [List.getElem?_append_right (by omega), List.getElem?_append_left (by omega), e1, Nat.sub_self, List.getElem?_drop, List.getElem?_map, List.getElem?_take_of_lt (by omega)]
  simp only [Nat.add_zero]
  cases vs[k]? <;> simp
 ·rw [List.getElem?_append_right (by omega), List.getElem?_append_right (by omega), e1, e2, List.getElem?_drop, List.getElem?_drop, show i + (k - i) = k by omega, show i + 1 + (k - (i + 1)) = k by omega]
  simp only [if_neg (show ¬ i = k by omega)]
  cases vs[k]? <;> rfl
theorem lR {o : OpS} {mv sv : a9} (hb : o.A.block.length = 32) : (cU o mv sv).length = 40 := by simp [cU, cH hb]
theorem IG {h : Hp} {n id : Nat} {o : OpS} {mv sv : a9} (hr : Row h id (cU o mv sv)) (hb : o.A.block.length = 32) : Rd (load env 46 (.ptr id 1)) h n [id] (.agg (bH o.A mv sv)) := by
 have := hr.agg (E := env) (n := n) (off := 1) lO rfl (by rw [lR hb]; decide)
 have e : ((cU o mv sv).drop 1).take 37 = bH o.A mv sv := by unfold cU; rw [List.drop_succ_cons, List.drop_zero, List.take_append_of_le_length (by rw [cH hb]; omega), List.take_of_length_le (by rw [cH hb]; omega)]
 exact e ▸ this
theorem WV {o : OpS} {mv sv : a9} (hb : o.A.block.length = 32) (k : Nat) : (cU o mv sv)[38 + k]? = [a9.bool o.next, .int .i64 o.num][k]? := by
 unfold cU
 rw [show 38 + k = 37 + k + 1 by omega, List.getElem?_cons_succ, List.getElem?_append_right (by rw [cH hb]; omega), cH hb]
 congr 1; omega
theorem FR {h : Hp} {n id : Nat} {o : OpS} {mv sv : a9} (hr : Row h id (cU o mv sv)) (hb : o.A.block.length = 32) : Rd (load env 4 (.ptr id 38)) h n [id] (.bool o.next) := hr.one (WV hb 0) ti4 rfl
theorem IF {h : Hp} {n id : Nat} {o : OpS} {mv sv : a9} (hr : Row h id (cU o mv sv)) (hb : o.A.block.length = 32) : Rd (load env 3 (.ptr id 39)) h n [id] (.int .i64 o.num) := hr.one (WV hb 1) ti3 rfl
theorem FU {h : Hp} {n id : Nat} {o : OpS} {mv sv : a9} (hr : Row h id (cU o mv sv)) : Rd (load env 3 (.ptr id 0)) h n [id] (.int .i64 o.kind) := hr.one rfl ti3 rfl
theorem AJ {h : Hp} {n id : Nat} {o : OpS} {mv sv : a9} (hr : Row h id (cU o mv sv)) (hb : o.A.block.length = 32) : Rd (load env 105 (.ptr id 0)) h n [id] (.agg (cU o mv sv)) := hr.whole sY rfl (lR hb)
theorem VL.aO {h : Hp} {a b : Nat} {v : a9} {vs : List Ver} (l : VL h a b v vs) {i : Nat} (hi : i < vs.length) (k m : Nat) : Go.Am.aO m (addrOf k v) = M.pure (addrOf (k + m) v) := by
 obtain ⟨cells, c1, c2, c3⟩ := l
 exact iX c1.rds (by omega) k m
theorem VL.wide {h : Hp} {a b c d : Nat} {v : a9} {vs : List Ver} (l : VL h a b v vs) (h1 : c ≤ a) (h2 : b ≤ d) : VL h c d v vs := by
 obtain ⟨cells, c1, c2, c3⟩ := l
 exact ⟨cells, c1, c2.mono (fun j q => ⟨by omega, by omega, q.2.2⟩) (fun j q => rfl), fun j q => by have := c3 j q; omega⟩
theorem SL.wide {h : Hp} {a b c d : Nat} {v : a9} {ss : List Spd} (l : SL h a b v ss) (h1 : c ≤ a) (h2 : b ≤ d) : SL h c d v ss := by
 obtain ⟨cells, c1, c2, c3⟩ := l
 exact ⟨cells, c1, c2, fun j q => by have := c3 j q; omega⟩
theorem HD {h : Hp} {a b c d : Nat} {v w : a9} {vs : List Ver} {ss : List Spd} (l : VL h a b v vs) (k : SL h c d w ss) {j : Nat} (h1 : bD w = some j) : bD v ≠ some j := fun h2 => by
 obtain ⟨cells, c1, c2, c3⟩ := l
 obtain ⟨cells2, d1, d2, d3⟩ := k
 clear c2 d2
 generalize vs.length = m at *
 generalize ss.length = m2 at *
 cases c1 with
 | nil => cases h2
 | sl id cnt cap cells xs hh hl hcc hx =>
  cases d1 with
  | nil => cases h1
  | sl id2 cnt2 cap2 cells2 xs2 hh2 hl2 hcc2 hx2 =>
   injection h1 with h1
   injection h2 with h2
   subst h1
   subst h2
   rw [hh] at hh2
   injection hh2 with q
   injection q with q1 q2
   exact absurd q2 (by decide)
def iV (o : OpS) (tip : Int) : App := if o.next then { o.A with height := IntKind.i64.wrap (tip + 1), made := o.A.made.map (atH (IntKind.i64.wrap (tip + 1))) } else o.A
theorem SO (Q : eB) (ks : List Kf) (A : App) (tip : Int) (mv sv : a9) (a b c4 c5 n0 : Nat) (z : Int) (hz : IntKind.i64.wrap (tip + 1) = z) (hb : A.block.length = 32) (hl : A.made.length ≤ 1000000) (hb5 : b ≤ c5) (hbn : b ≤ n0) (h0 : Hp) (r5 : Row h0 c5 (bH A mv sv)) (x2 : a9)
  (hT : ∀ (h : Hp) (n : Nat) (x0 x6 x19 : a9), VL h a b mv (A.made.map (atH z)) → (∀ j, bD mv ≠ some j → h j = h0 j) → n0 ≤ n → bK h n →
   dL env 59 none Q ks (.exit 0) (x0 :: .int .i64 tip :: x2 :: a9.junk :: .ptr c4 0 :: .ptr c5 0 :: x6 :: a9.junk :: a9.junk :: a9.junk :: a9.junk :: .bool true :: a9.junk :: a9.junk :: a9.junk :: a9.junk :: a9.junk :: .int .i64 (A.made.length : Nat) :: .int .i64 (A.made.length : Nat) :: x19 :: a9.junk :: a9.junk :: a9.junk :: a9.junk :: a9.junk :: a9.junk :: a9.junk :: a9.junk :: a9.junk :: a9.junk :: []) h n) :
  ∀ (m i : Nat) (h : Hp) (n : Nat) (x0 x6 x19 : a9), i + m = A.made.length → VL h a b mv ((A.made.take i).map (atH z) ++ A.made.drop i) → (∀ j, bD mv ≠ some j → h j = h0 j) → n0 ≤ n → bK h n →
   Run env 59 none Q (.loop CR) ks (x0 :: .int .i64 tip :: x2 :: a9.junk :: .ptr c4 0 :: .ptr c5 0 :: x6 :: a9.junk :: a9.junk :: a9.junk :: a9.junk :: .bool true :: a9.junk :: a9.junk :: a9.junk :: a9.junk :: a9.junk :: .int .i64 (A.made.length : Nat) :: .int .i64 (i : Nat) :: x19 :: a9.junk :: a9.junk :: a9.junk :: a9.junk :: a9.junk :: a9.junk :: a9.junk :: a9.junk :: a9.junk :: a9.junk :: []) h n := by
 intro m
 induction m with
 | zero =>
  intro i h n x0 x6 x19 hm hv hk hn hf
  have : i = A.made.length := by omega
  subst this
  rw [bZ]
  have hcc : ¬ (((A.made.length : Nat) : Int) < ((A.made.length : Nat) : Int)) := by omega
  simp only [CR, bO, Try.f59, Option.getD_some, aB, fgr, execOp, opd, aC, put, nth, aA, bor, aJ, aK, intOp, List.getD_cons_zero, hcc, gL, gB]
  rw [List.take_length, List.drop_length, List.append_nil] at hv
  exact hT h n _ _ _ hv hk hn hf
 | succ m ih =>
  intro i h n x0 x6 x19 hm hv hk hn hf
  have hil : i < A.made.length := by omega
  have hcc : (((i : Nat) : Int) < ((A.made.length : Nat) : Int)) := by omega
  have w1 : IntKind.i64.wrap (((i : Nat) : Int) + 1) = ((i + 1 : Nat) : Int) := by rw [w64 (by omega) (by omega)]; omega
  have hvl : i < ((A.made.take i).map (atH z) ++ A.made.drop i).length := by simp; omega
  have hid : ∀ j, bD mv = some j → j < b := fun j q => by
   obtain ⟨cells, c1, c2, c3⟩ := hv
   exact (c3 j q).2
  have r : Row h c5 (bH A mv sv) := r5.aT (hk c5 (fun q => by have := hid _ q; omega))
  have m1 := hv.aO hvl (i * 70) 33
  obtain ⟨rs, ws, h2, w, v2, o2⟩ := hv.made (n := n) hvl z
  rw [CJ _ _ hil] at v2
  have f2 : bK h2 n := fun j hj => by
   rw [o2 j]
   ·exact hf j hj
   ·intro q
    have := hid _ q
    omega
  rw [bZ]
  simp only [CR, bO, Try.f59, Option.getD_some, aB, tyr, fgr, execOp, opd, aC, put, nth, aA, und, sizeOf, bor, aJ, aK, intOp, aV, fieldAddr, List.getD_cons_zero, hcc, gL, gB]
  simp only [aO, aB, execOp, opd, aC, put, nth, aO, gI]
  rw [aN (m8 r hb)]
  simp only [aB, execOp, opd, ofValue, aC, put, nth, bor, aJ, aK, intOp, bR, hz, gB]
  rw [aN (hv.idx hvl)]
  simp only [aB, tyr, execOp, opd, aC, put, nth, und, sizeOf, aV, fieldAddr, m1, gL]
  rw [eC w]
  simp only [aB, fgr, execOp, opd, ofValue, aC, put, nth, aA, bor, aJ, aK, intOp, bR, w1, gB]
  exact ih (i + 1) h2 n _ _ _ (by omega) v2 (fun j q => by rw [o2 j q, hk j q]) hn f2
theorem f59 (o : OpS) (tip : Int) (mv sv : a9) (h : Hp) (n : Nat) (ha : qJ o.A mv sv) (hl : o.A.made.length ≤ 1000000) (hl2 : o.A.spends.length ≤ 1000000) (hsl : ∀ v ∈ o.A.made, v.script.length ≤ 1000000) (hf : bK h n) :
  Wp (aZ env (evalW env) 59 [.agg (cU o mv sv), .int .i64 tip]) h n fun v' h' n' => ∃ mv' sv', v' = .agg (bH (iV o tip) mv' sv') ∧ jD h' n n' (iV o tip) mv' sv' ∧ Old h h' n := by
 have hb := ha.b
 refine bI ff59 fi59 ?_
 simp only [TZ, Try.f59, Option.getD_some, List.replicate, aB, execOp, opd, nth, ended, aP, aQ, Nat.reduceAdd, Nat.reduceSub, gL, gI]
 refine dC (v := .agg (cU o mv sv)) sY rfl hf fun H1 r1 o1 f1 => ?_
 replace r1 : Row H1 n (cU o mv sv) := r1
 simp only [aB, execOp, aC, put]
 rw [cG lO rfl]
 obtain ⟨H2, hH2⟩ : ∃ H2, H2 = upd H1 (n + 1) (some (.row (.l (bH pP .nils .nils)) 46)) := ⟨_, rfl⟩
 have g2 : H2 (n + 1) = some (.row (.l (bH pP .nils .nils)) 46) := by rw [hH2, aU]
 have o2 : ∀ j, j ≠ n + 1 → H2 j = H1 j := fun j hj => by rw [hH2, aR _ _ hj]
 have f2 : bK H2 (n + 1 + 1) := by rw [hH2]; exact f1.new
 show Ops _ _ _ _ _ _ _ _ (upd H1 (n + 1) (some (.row (.l (bH pP .nils .nils)) 46))) _
 rw [← hH2]
 clear hH2
 have r2 := r1.aT (o2 n (by omega))
 simp only [aB, tyr, fgr, execOp, opd, aC, put, nth, aA, und, sizeOf, aV, aO, fieldAddr, gL, gI]
 rw [aN (IG r2 hb)]
 simp only [aB, hkr, execOp, opd, bC, aC, put, nth, aI, aD, gL]
 refine bB f2 (f96 o.A mv sv H2 _ ha hl hl2 hsl f2) fun v3 h3 n3 hn3 f3 ⟨mv', sv', e3, a3, k3⟩ => ?_
 subst e3
 have oo3 : ∀ j, j < n → h3 j = h j := fun j hj => by rw [k3 j (by omega), o2 j (by omega), o1 j (by omega)]
 have r3 : Row h3 n (cU o mv sv) := r2.aT (k3 n (by omega))
 have g3 : h3 (n + 1) = some (.row (.l (bH pP .nils .nils)) 46) := (k3 _ (by omega)).trans g2
 have km := a3.m.kind
 have ks := a3.s.kind
 simp only [aB, execOp, aC, put]
 rw [cG lO rfl]
 simp only [aB, execOp, opd, aC, put, nth, cel]
 refine dW (v := .agg (bH o.A mv' sv')) lO rfl (cH hb) (jN km.2.1 ks.2.1) f3 fun H4 r4 p4 f4 => ?_
 replace r4 : Row H4 n3 (bH o.A mv' sv') := r4
 have o4 : ∀ j, j < n3 → H4 j = h3 j := fun j hj => p4 j (by omega)
 have rn4 := r3.aT (o4 n (by omega))
 simp only [aB, tyr, fgr, execOp, opd, aC, put, nth, aA, und, sizeOf, aV, aO, fieldAddr, gL, gI]
 rw [aN (FR rn4 hb)]
 have oo4 : ∀ j, j < n → H4 j = h j := fun j hj => by rw [o4 j (by omega), oo3 j hj]
 have g4 : H4 (n + 1) = some (.row (.l (bH pP .nils .nils)) 46) := (o4 _ (by omega)).trans g3
 have a4 : jD H4 (n + 1 + 1) n3 o.A mv' sv' := a3.aT fun j q1 q2 => o4 j q2
 cases hnx : o.next with
 | false =>
  have ed : iV o tip = o.A := by unfold iV; rw [hnx]; rfl
  rw [ed]
  simp only [aB, fgr, execOp, opd, aC, put, nth, aA]
  rw [aN (lM r4 hb)]
  simp only [aB, execOp, opd, aC, put, nth]
  rw [eC (Row.write (off := 0) (v := .agg (bH o.A mv' sv')) g4 lO (cH hb) (by show 0 + 37 ≤ 37; omega) (jN km.2.1 ks.2.1))]
  rw [eN (by show (bH _ _ _).length = _; rw [cH hb]; rfl)]
  simp only [aB, fgr, aC, nth, aA, cel, true_and]
  refine eV (Row.whole (cs := bH o.A mv' sv') ⟨46, aU _ _ _⟩ lO rfl (cH hb)) (wp_pure.2 ?_)
  have a5 := a4.aT (h' := upd H4 (n + 1) (some (.row (.l (bH o.A mv' sv')) 46))) fun j q1 q2 => aR _ _ (by omega)
  exact ⟨mv', sv', rfl, ⟨VL.wide a5.m (by omega) (by omega), SL.wide a5.s (by omega) (by omega), a5.b, a5.ml, a5.sl⟩, fun j hj => by rw [aR _ _ (by omega), oo4 j hj]⟩
 | true =>
  have ed : iV o tip = { o.A with height := IntKind.i64.wrap (tip + 1), made := o.A.made.map (atH (IntKind.i64.wrap (tip + 1))) } := by unfold iV; rw [hnx]; rfl
  rw [ed]
  generalize hz : IntKind.i64.wrap (tip + 1) = z
  obtain ⟨et, g5⟩ := r4
  simp only [aB, tyr, fgr, execOp, opd, ofValue, aC, put, nth, aA, und, sizeOf, bor, aJ, aK, intOp, bR, aV, aO, fieldAddr, hz, gL, gB, gI]
  rw [eC (Row.write (off := 0) (v := .int .i64 z) g5 ti3 rfl (by rw [cH hb]; show 0 + 1 ≤ 37; omega) rfl)]
  have es : bX (bH o.A mv' sv') 0 (a9.int .i64 z).cells = bH { o.A with height := z } mv' sv' := rfl
  rw [es]
  obtain ⟨H5, hH5⟩ : ∃ H5, H5 = upd H4 n3 (some (.row (.l (bH { o.A with height := z } mv' sv')) et)) := ⟨_, rfl⟩
  have r5 : Row H5 n3 (bH { o.A with height := z } mv' sv') := ⟨et, by rw [hH5, aU]⟩
  have o5 : ∀ j, j ≠ n3 → H5 j = H4 j := fun j hj => by rw [hH5, aR _ _ hj]
  have f5 : bK H5 (n3 + 1) := by rw [hH5]; exact f4.upd (by omega)
  rw [← hH5]
  clear hH5
  have a5 := a4.aT (h' := H5) fun j q1 q2 => o5 j (by omega)
  simp only [aB, tyr, fgr, execOp, opd, aC, put, nth, aA, und, sizeOf, aV, aO, fieldAddr, gL, gI]
  rw [aN (m8 r5 hb)]
  simp only [aB, fgr, execOp, opd, bC, ofValue, aC, put, nth, aA, aI, builtin, dB, a5.m.len]
  refine SO _ _ { o.A with height := z } tip mv' sv' (n + 1 + 1) n3 (n + 1) n3 (n3 + 1) z hz hb hl (Nat.le_refl _) (by omega) H5 r5 (.ptr n 0) ?_ o.A.made.length 0 H5 (n3 + 1) _ _ _ (Nat.zero_add _) a5.m (fun j _ => rfl) (Nat.le_refl _) f5
  intro h6 n6 x0 x6 x19 v6 k6 hn6 f6
  have hid : ∀ j, bD mv' = some j → n + 1 + 1 ≤ j ∧ j < n3 := fun j q => by
   obtain ⟨cells, c1, c2, c3⟩ := v6
   exact c3 j q
  have r6 : Row h6 n3 (bH { o.A with height := z } mv' sv') := r5.aT (k6 n3 fun q => by have := hid _ q; omega)
  have g6 : h6 (n + 1) = some (.row (.l (bH pP .nils .nils)) 46) := by rw [k6 _ (fun q => by have := hid _ q; omega), o5 _ (by omega)]; exact g4
  simp only [aB, execOp, opd, nth]
  rw [aN (lM r6 hb)]
  simp only [aB, execOp, opd, aC, put, nth]
  rw [eC (Row.write (off := 0) (v := .agg (bH { o.A with height := z } mv' sv')) g6 lO (cH hb) (by show 0 + 37 ≤ 37; omega) (jN km.2.1 ks.2.1))]
  rw [eN (by show (bH _ _ _).length = _; rw [cH (show ({ o.A with height := z } : App).block.length = 32 from hb)]; rfl)]
  simp only [aB, fgr, aC, nth, aA, cel, true_and]
  refine eV (Row.whole (cs := bH { o.A with height := z } mv' sv') ⟨46, aU _ _ _⟩ lO rfl (cH hb)) (wp_pure.2 ?_)
  have s6 : SL h6 (n + 1 + 1) n3 sv' o.A.spends := by
   obtain ⟨cells, c1, c2, c3⟩ := a5.s
   exact ⟨cells, c1.aT fun j q => k6 j (HD a5.m a5.s q), c2, c3⟩
  have oZ : ∀ j, j ≠ n + 1 → upd h6 (n + 1) (some (.row (.l (bH { o.A with height := z } mv' sv')) 46)) j = h6 j := fun j hj => aR _ _ hj
  refine ⟨mv', sv', rfl, ⟨VL.wide (v6.aT fun j q1 q2 => oZ j (by omega)) (by omega) (by omega), SL.wide (s6.aT fun j q1 q2 => oZ j (by omega)) (by omega) (by omega), hb, by show (o.A.made.map _).length ≤ _; rw [List.length_map]; exact hl, hl2⟩, fun j hj => ?_⟩
  rw [oZ j (by omega), k6 j (fun q => by have := hid _ q; omega), o5 j (by omega), oo4 j hj]
theorem FQ {L : List Ver} {v : Ver} (r : dD false L) (h : rH v L = false) : dD false (mE L v) := by
 refine sK r (mS r v) fun w hw e => ?_
 unfold rH at h
 rw [Bool.or_eq_false_iff, List.any_eq_false] at h
 exact h.2 w hw (decide_eq_true e)
theorem NZ {L : List Ver} {v : Ver} {z : Int} (h : z < v.made) : iH z (mE L v) = iH z L := by
 unfold iH mE fL
 rw [List.filterMap_append, List.filterMap_cons]
 have e : lZ z v = none := by unfold lZ; rw [if_pos h]
 rw [e]
 simp only
 rw [← List.filterMap_append, List.take_append_drop]
theorem NY {L : List Ver} {w v : Ver} {z : Int} (r : dD false L) (hw : w ∈ L) (h : lZ z v = lZ z w) : iH z (pK L w v) = iH z L := by
 obtain ⟨P, S, rfl⟩ := List.append_of_mem hw
 rw [yU r]
 unfold iH
 rw [List.filterMap_append, List.filterMap_cons, List.filterMap_append, List.filterMap_cons, h]
theorem FH {L : List Ver} {w : Ver} (r : dD false L) (hw : w ∈ L) (s : Int) (b : List UInt8) : dD false (pK L w (iR w s b)) := by
 obtain ⟨P, S, rfl⟩ := List.append_of_mem hw
 rw [yU r]
 unfold dD at r ⊢
 rw [List.pairwise_append, List.pairwise_cons] at r ⊢
 exact ⟨r.1, ⟨fun a ha => r.2.1.1 a ha, r.2.1.2⟩, fun a ha c hc => by
  rcases List.mem_cons.1 hc with rfl | q
  ·exact r.2.2 a ha w (List.mem_cons_self ..)
  ·exact r.2.2 a ha c (List.mem_cons_of_mem _ q)⟩
theorem sH {L : List Ver} {w v u : Ver} (r : dD false L) (hw : w ∈ L) (h : u ∈ pK L w v) : u = v ∨ (u ∈ L ∧ u ≠ w) := by
 rw [HV r hw] at h
 obtain ⟨x, hx, e⟩ := List.mem_map.1 h
 by_cases c : fB x w = 0
 ·rw [if_pos c] at e
  exact .inl e.symm
 ·rw [if_neg c] at e
  subst e
  exact .inr ⟨hx, fun q => c (by rw [q]; exact nQ.refl w)⟩
structure OR (t : Int) (v : Ver) : Prop where
 m0 : 0 ≤ v.made
 m : v.made ≤ t
 s : (v.spent = 0 ∧ v.by_ = z32) ∨ (0 < v.spent ∧ v.spent ≤ t ∧ v.made ≤ v.spent)
 v0 : 0 ≤ v.value
 v1 : v.value ≤ 2100000000000000
theorem OR.up {t u : Int} {v : Ver} (f : OR t v) (h : t ≤ u) : OR u v := ⟨f.m0, by have := f.m; omega, by rcases f.s with q | q; exact .inl q; exact .inr ⟨q.1, by omega, q.2.2⟩, f.v0, f.v1⟩
structure Inv (L : List Ver) (t : Int) : Prop where
 r : dD false L
 f : ∀ v ∈ L, OR t v
 o : ∀ a ∈ L, ∀ b ∈ L, a.hash = b.hash → a.pn = b.pn → a.made < b.made → 0 < a.spent ∧ a.spent ≤ b.made
theorem Inv.none : Inv [] (-1) := ⟨List.Pairwise.nil, (fun v hv => nomatch hv), (fun v hv => nomatch hv)⟩
theorem P2 {f : Ver → Option Ver} : ∀ (L : List Ver), (∀ v ∈ L, f v = some v) → L.filterMap f = L
 | [], _ => rfl
 | v :: L, h => by
  rw [List.filterMap_cons, h v (List.mem_cons_self ..)]
  simp only
  rw [P2 L fun w hw => h w (List.mem_cons_of_mem _ hw)]
theorem KI {L : List Ver} {t : Int} (i : Inv L t) {z : Int} (hz : t ≤ z) : iH z L = L := by
 unfold iH
 have : ∀ v ∈ L, lZ z v = some v := fun v hv => by
  have f := i.f v hv
  have h1 := f.m
  unfold lZ
  rw [if_neg (by omega), if_neg]
  rcases f.s with q | q <;> omega
 exact P2 L this
structure Mid (L0 : List Ver) (t : Int) (L : List Ver) : Prop where
 r : dD false L
 e : ∀ v ∈ L, v ∈ L0 ∨ (v.made = t + 1 ∧ v.spent = 0 ∧ v.by_ = z32 ∧ 0 ≤ v.value ∧ v.value ≤ 2100000000000000 ∧ atV L0 v.hash v.pn t = .none)
theorem OK {L : List Ver} {v a : Ver} {z : Int} (h : atV L v.hash v.pn z = none) (ha : a ∈ L) (h1 : a.hash = v.hash) (h2 : a.pn = v.pn) : there a z = false := by
 cases c : there a z with
 | false => rfl
 | true =>
  have := OJ ha c
  rw [h1, h2, h] at this
  cases this
theorem Mid.inv {L0 L : List Ver} {t : Int} (m : Mid L0 t L) (i : Inv L0 t) (ht : -1 ≤ t) : Inv L (t + 1) := by
 refine ⟨m.r, fun v hv => ?_, fun a ha b hb h1 h2 h3 => ?_⟩
 ·rcases m.e v hv with q | ⟨q1, q2, q3, q4, q5, q6⟩
  ·exact (i.f v q).up (by omega)
  ·exact ⟨by omega, by omega, .inl ⟨q2, q3⟩, q4, q5⟩
 ·rcases m.e b hb with q | ⟨q1, q2, q3, q4, q5, q6⟩
  ·rcases m.e a ha with p | ⟨p1, p2⟩
   ·exact i.o a p b q h1 h2 h3
   ·have := (i.f b q).m
    omega
  ·rcases m.e a ha with p | ⟨p1, p2⟩
   ·have e := OK q6 p h1 h2
    have f := i.f a p
    have := f.m
    unfold there at e
    rw [Bool.and_eq_false_iff, Bool.or_eq_false_iff, decide_eq_false_iff_not, decide_eq_false_iff_not, decide_eq_false_iff_not] at e
    rcases f.s with s | s <;> omega
   ·omega
theorem AG {L0 : List Ver} {t : Int} : ∀ (vs L : List Ver) (s : Int) (p : List Ver × Int), (∀ v ∈ vs, mY (t + 1) v = true) → Mid L0 t L → mD L0 t vs L s = some p → Mid L0 t p.1 ∧ ∀ z, z ≤ t → iH z p.1 = iH z L
 | [], L, s, p, hv, m, h => by
  unfold mD at h
  injection h with h
  subst h
  exact ⟨m, fun z _ => rfl⟩
 | v :: vs, L, s, p, hv, m, h => by
  unfold mD at h
  by_cases c : ((atV L0 v.hash v.pn t).isSome || rH v L) = true
  ·rw [if_pos c] at h; cases h
  ·rw [if_neg c] at h
   rw [Bool.not_eq_true, Bool.or_eq_false_iff] at c
   have hf := hv v (List.mem_cons_self ..)
   unfold mY kZ at hf
   simp only [Bool.and_eq_true, decide_eq_true_eq] at hf
   obtain ⟨⟨⟨⟨f1, f2⟩, f3⟩, f4⟩, f5⟩ := hf
   have hn : atV L0 v.hash v.pn t = none := by
    cases e : atV L0 v.hash v.pn t with
    | none => rfl
    | some x => rw [e] at c; cases c.1
   obtain ⟨a, b⟩ := AG vs (mE L v) _ p (fun w hw => hv w (List.mem_cons_of_mem _ hw)) ⟨FQ m.r c.2, fun w hw => by
    rcases AH.1 hw with rfl | q
    ·exact .inr ⟨f1, f2, f3, f4.1, f4.2, hn⟩
    ·exact m.e w q⟩ h
   exact ⟨a, fun z hz => by rw [b z hz, NZ (by omega)]⟩
theorem BG {t : Int} (ht : 0 ≤ t) : ∀ (ps : List Spd) (L : List Ver) (s : Int) (p : List Ver × Int), Inv L t → mM t ps L s = some p → Inv p.1 t ∧ ∀ z, z < t → iH z p.1 = iH z L
 | [], L, s, p, i, h => by
  unfold mM at h
  injection h with h
  subst h
  exact ⟨i, fun z _ => rfl⟩
 | q :: ps, L, s, p, i, h => by
  unfold mM at h
  cases e : atV L q.hash q.pn t with
  | none => rw [e] at h; cases h
  | some w =>
   rw [e] at h
   simp only at h
   by_cases c : (decide (w.spent = 0) && decide (1 ≤ t) && decide (w.made ≤ t)) = true
   ·rw [if_pos c] at h
    simp only [Bool.and_eq_true, decide_eq_true_eq] at c
    obtain ⟨⟨c1, c2⟩, c3⟩ := c
    obtain ⟨w1, w2, w3, w4⟩ := BX e
    have fw := i.f w w1
    have wb : w.by_ = z32 := by rcases fw.s with s | s; exact s.2; omega
    have i' : Inv (pK L w (iR w t q.by_)) t := by
     refine ⟨FH i.r w1 _ _, fun v hv => ?_, fun a ha b hb h1 h2 h3 => ?_⟩
     ·rcases qO hv with rfl | g
      ·exact ⟨fw.m0, fw.m, .inr ⟨(show 0 < t by omega), (show t ≤ t by omega), fw.m⟩, fw.v0, fw.v1⟩
      ·exact i.f v g
     ·rcases sH i.r w1 hb with rfl | ⟨b1, b2⟩
      ·rcases sH i.r w1 ha with rfl | ⟨a1, a2⟩
       ·omega
       ·exact i.o a a1 w w1 h1 h2 h3
      ·rcases sH i.r w1 ha with rfl | ⟨a1, a2⟩
       ·have := i.o w w1 b b1 h1 h2 h3
        omega
       ·exact i.o a a1 b b1 h1 h2 h3
    obtain ⟨x, y⟩ := BG ht ps _ _ p i' h
    refine ⟨x, fun z hz => ?_⟩
    rw [y z hz]
    refine NY i.r w1 ?_
    unfold lZ
    show (if z < w.made then _ else if z < t ∧ 0 < t then some (iR (iR w t q.by_) 0 z32) else _) = _
    by_cases c4 : z < w.made
    ·rw [if_pos c4, if_pos c4]
    ·rw [if_neg c4, if_neg c4, if_pos ⟨hz, by omega⟩, if_neg (by omega)]
     cases w
     simp only [iR] at *
     rw [c1, wb]
   ·rw [if_neg c] at h; cases h
theorem BI {L : List Ver} {I : List Inf} {A : App} {q : List Ver × List Inf} (i : Inv L (((I.length : Nat) : Int) - 1)) (h : eS L I A = some q) :
  Inv q.1 ((q.2.length : Nat) - 1) ∧ (∀ z, z ≤ ((I.length : Nat) : Int) - 1 → iH z q.1 = iH z L) ∧ ∃ x, q.2 = I ++ [x] ∧ x.height = ((I.length : Nat) : Int) := by
 unfold eS at h
 split at h
 ·cases h
 ·rename_i hc
  rw [Bool.and_eq_true, decide_eq_true_eq] at hc
  obtain ⟨hk, hh⟩ := hc
  split at h
  ·cases h
  ·rename_i r hd
   split at h
   ·cases h
   ·injection h with h
    subst h
    unfold tD at hd
    split at hd
    ·rename_i r1 hp
     have hfit : ∀ v ∈ A.made, mY (((I.length : Nat) : Int) - 1 + 1) v = true := fun v hv => by
      have := (yC hk v hv).2
      rw [hh] at this
      rw [Int.sub_add_cancel]
      exact this
     obtain ⟨m, c⟩ := AG A.made L _ r1 hfit ⟨i.r, fun v hv => .inl hv⟩ hp
     have i1 := m.inv i (by omega)
     rw [Int.sub_add_cancel] at i1
     rw [hh] at hd
     obtain ⟨i2, c2⟩ := BG (by omega) A.spends r1.1 r1.2 r i1 hd
     refine ⟨?_, fun z hz => by rw [c2 z (by omega), c z hz], _, rfl, hh⟩
     rw [List.length_append]
     have : (((I.length + [mH I A r.2].length : Nat) : Int) - 1) = ((I.length : Nat) : Int) := by simp
     rw [this]
     exact i2
    ·cases hd
theorem pC {z : Int} {v u : Ver} (h : lZ z v = some u) : v.made ≤ z ∧ ((u = v ∧ (v.spent ≤ z ∨ v.spent ≤ 0)) ∨ (u = iR v 0 z32 ∧ z < v.spent ∧ 0 < v.spent)) := by
 unfold lZ at h
 split at h
 ·cases h
 ·rename_i c
  split at h
  ·rename_i d
   injection h with h
   exact ⟨by omega, .inr ⟨h.symm, d⟩⟩
  ·rename_i d
   injection h with h
   exact ⟨by omega, .inl ⟨h.symm, by omega⟩⟩
theorem oH {z : Int} {v u : Ver} (h : lZ z v = some u) : u.hash = v.hash ∧ u.pn = v.pn ∧ u.made = v.made ∧ u.value = v.value ∧ u.script = v.script := by
 rcases (pC h).2 with ⟨rfl, _⟩ | ⟨rfl, _⟩ <;> exact ⟨rfl, rfl, rfl, rfl, rfl⟩
theorem O2 {L : List Ver} {t z : Int} (i : Inv L t) (hz : -1 ≤ z) : Inv (iH z L) z := by
 refine ⟨?_, fun u hu => ?_, fun a ha b hb h1 h2 h3 => ?_⟩
 ·unfold dD iH
  rw [List.pairwise_filterMap]
  refine i.r.imp fun {a b} hab x hx y hy => ?_
  obtain ⟨x1, x2, x3, _⟩ := oH hx
  obtain ⟨y1, y2, y3, _⟩ := oH hy
  show orI (oI x.hash x.pn y.hash y.pn) (kG x.made y.made) < 0
  rw [x1, x2, x3, y1, y2, y3]
  exact hab
 ·obtain ⟨v, hv, e⟩ := List.mem_filterMap.1 hu
  obtain ⟨k1, k2, k3, k4, k5⟩ := oH e
  obtain ⟨c1, c2⟩ := pC e
  have f := i.f v hv
  refine ⟨by rw [k3]; exact f.m0, by omega, ?_, by rw [k4]; exact f.v0, by rw [k4]; exact f.v1⟩
  rcases c2 with ⟨rfl, c⟩ | ⟨rfl, c⟩
  ·rcases f.s with s | s
   ·exact .inl s
   ·exact .inr ⟨s.1, by omega, s.2.2⟩
  ·exact .inl ⟨rfl, rfl⟩
 ·obtain ⟨v, hv, e⟩ := List.mem_filterMap.1 ha
  obtain ⟨w, hw, g⟩ := List.mem_filterMap.1 hb
  obtain ⟨k1, k2, k3, k4, k5⟩ := oH e
  obtain ⟨l1, l2, l3, l4, l5⟩ := oH g
  have o := i.o v hv w hw (by rw [← k1, ← l1]; exact h1) (by rw [← k2, ← l2]; exact h2) (by omega)
  obtain ⟨c1, c2⟩ := pC e
  obtain ⟨d1, d2⟩ := pC g
  rcases c2 with ⟨rfl, c⟩ | ⟨rfl, c⟩
  ·omega
  ·omega
def Lev (I : List Inf) : Prop := ∀ (k : Nat) (hk : k < I.length), I[k].height = ((k : Nat) : Int)
theorem Lev.none : Lev [] := fun k hk => by simp at hk
theorem Lev.snoc {I : List Inf} {x : Inf} (l : Lev I) (h : x.height = ((I.length : Nat) : Int)) : Lev (I ++ [x]) := fun k hk => by
 by_cases c : k < I.length
 ·rw [List.getElem_append_left c]; exact l k c
 ·rw [List.length_append, List.length_singleton] at hk
  have : k = I.length := by omega
  subst this
  simp [h]
theorem Lev.take {I : List Inf} (l : Lev I) (n : Nat) : Lev (I.take n) := fun k hk => by
 rw [List.getElem_take]
 exact l k _
theorem Lev.find {I : List Inf} (l : Lev I) {k : Nat} (hk : k < I.length) : nE I ((k : Nat) : Int) = some I[k] := by
 unfold nE
 rw [List.find?_eq_some_iff_getElem]
 refine ⟨decide_eq_true (l k hk), k, hk, rfl, fun j hj => ?_⟩
 rw [Bool.not_eq_true', decide_eq_false_iff_not, l j (by omega)]
 omega
structure Sto (L : List Ver) (I : List Inf) (k : Nat) : Prop where
 i : Inv L (((I.length : Nat) : Int) - 1)
 l : Lev I
 n : L.length ≤ 20 * k
 m : I.length ≤ k
theorem Sto.none : Sto [] [] 0 := ⟨Inv.none, Lev.none, Nat.le_refl _, Nat.le_refl _⟩
theorem Sto.up {L : List Ver} {I : List Inf} {k j : Nat} (s : Sto L I k) (h : k ≤ j) : Sto L I j := ⟨s.i, s.l, by have := s.n; omega, by have := s.m; omega⟩
theorem AF {L0 : List Ver} {t : Int} : ∀ (vs L : List Ver) (s : Int) (p : List Ver × Int), mD L0 t vs L s = some p → p.1.length = L.length + vs.length
 | [], L, s, p, h => by
  unfold mD at h
  injection h with h
  subst h
  rfl
 | v :: vs, L, s, p, h => by
  unfold mD at h
  by_cases c : ((atV L0 v.hash v.pn t).isSome || rH v L) = true
  ·rw [if_pos c] at h; cases h
  ·rw [if_neg c] at h
   rw [AF vs _ _ p h, AI, List.length_cons]
   omega
theorem BF {t : Int} : ∀ (ps : List Spd) (L : List Ver) (s : Int) (p : List Ver × Int), mM t ps L s = some p → p.1.length = L.length
 | [], L, s, p, h => by
  unfold mM at h
  injection h with h
  subst h
  rfl
 | q :: ps, L, s, p, h => by
  unfold mM at h
  cases e : atV L q.hash q.pn t with
  | none => rw [e] at h; cases h
  | some w =>
   rw [e] at h
   simp only at h
   by_cases c : (decide (w.spent = 0) && decide (1 ≤ t) && decide (w.made ≤ t)) = true
   ·rw [if_pos c] at h
    rw [BF ps _ _ p h, uN]
   ·rw [if_neg c] at h; cases h
theorem KG {L : List Ver} {I : List Inf} {A : App} {q : List Ver × List Inf} (h : eS L I A = some q) : q.1.length = L.length + A.made.length := by
 unfold eS at h
 split at h
 ·cases h
 ·split at h
  ·cases h
  ·rename_i r hd
   split at h
   ·cases h
   ·injection h with h
    subst h
    unfold tD at hd
    split at hd
    ·rename_i r1 hp
     rw [BF _ _ _ _ hd, AF _ _ _ _ hp]
    ·cases hd
def GD (L : List Ver) (I : List Inf) (A : App) : List Ver × List Inf := (eS L I A).getD (L, I)
theorem Sto.got {L : List Ver} {I : List Inf} {k : Nat} (s : Sto L I k) (A : App) (hA : A.made.length ≤ 20) : Sto (GD L I A).1 (GD L I A).2 (k + 1) := by
 unfold GD
 cases e : eS L I A with
 | none => exact s.up (by omega)
 | some q =>
  obtain ⟨a, b, x, c, d⟩ := BI s.i e
  have hl := KG e
  have h1 := s.n
  have h2 := s.m
  show Sto q.1 q.2 (k + 1)
  exact ⟨a, by rw [c]; exact s.l.snoc d, by omega, by rw [c, List.length_append, List.length_singleton]; omega⟩
theorem Sto.cut {L : List Ver} {I : List Inf} {k : Nat} (s : Sto L I k) {z : Int} (h1 : -1 ≤ z) (h2 : z ≤ ((I.length : Nat) : Int) - 1) : Sto (iH z L) (I.take (z + 1).toNat) k := by
 have hl : (I.take (z + 1).toNat).length = (z + 1).toNat := by rw [List.length_take]; omega
 have h3 := s.n
 have h4 := s.m
 have h5 : (iH z L).length ≤ L.length := List.length_filterMap_le _ _
 refine ⟨?_, s.l.take _, by omega, by omega⟩
 rw [hl, show (((z + 1).toNat : Nat) : Int) - 1 = z by omega]
 exact O2 s.i h1
theorem nA (o : OpS) (tip : Int) : (iV o tip).made.length = o.A.made.length := by
 unfold iV
 cases o.next <;> simp
theorem BH {o : OpS} {tip : Int} (h : ∀ v ∈ o.A.made, 0 ≤ v.pn) : ∀ v ∈ (iV o tip).made, 0 ≤ v.pn := fun v hv => by
 unfold iV at hv
 cases hn : o.next with
 | false => rw [hn] at hv; exact h v hv
 | true =>
  rw [hn] at hv
  obtain ⟨w, hw, rfl⟩ := List.mem_map.1 hv
  exact h w hw
theorem LR {A : App} {mv sv : a9} (h : qJ A mv sv) : ∀ v ∈ A.made, 0 ≤ v.pn := fun v hv => by
 obtain ⟨j, hj, rfl⟩ := List.mem_iff_getElem.1 hv
 obtain ⟨xs, hm⟩ := h.m
 obtain ⟨w, _, a⟩ := hm.at_ j hj
 exact a.pn
theorem wL {a : a9} {os : List OpS} {xs : List a9} {i : Nat} {o : OpS} {mv sv : a9} {h : Hp} {n : Nat} (ha : tJ a os xs) (hi : i < os.length) (e : (xs.drop (i * 40)).take 40 = cU o mv sv) :
  Rd (load env 105 (addrOf (i * 40) a)) h n (rid a) (.agg (cU o mv sv)) := by
 have hr0 := ha.rd h
 have hld := hr0.agg (E := env) (n := n) (k := i * 40) sY rfl (by decide) (by show i * 40 + 40 ≤ _; rw [hr0.length]; omega)
 have e' : (xs.drop (i * 40)).take 40 = cU o mv sv := e
 exact e' ▸ hld
theorem IK {o : OpS} {mv sv : a9} {ys zs : List a9} (hm : C3 mv o.A.made ys) (hs : F6 sv o.A.spends zs) : (cU o mv sv).all bJ = true := by
 have a := ((hm.rd (fun _ => none)).kind).2.1
 have b := ((hs.rd (fun _ => none)).kind).2.1
 unfold cU
 rw [List.all_cons, List.all_append, jN a b]; rfl
theorem SP (Q : eB) (ks : List Kf) (a : a9) (os : List OpS) (xs : List a9) (W : Nat → Prop) (s n0 : Nat) (h0 : Hp) (ha : tJ a os xs) (hg : lE os = false) (hn0 : n0 ≤ s)
  (hT : ∀ (h : Hp) (n : Nat) (L : List Ver) (I : List Inf) (x0 x2 x5 x10 x14 x15 x23 : a9), St W h n s L I → Sto L I os.length → bK h n → (∀ j, j < n0 → h j = h0 j) →
   dL env 58 none Q ks (.exit 0) (x0 :: a9.junk :: x2 :: .ptr s 0 :: a9.junk :: x5 :: a9.junk :: a :: .int .i64 (os.length : Nat) :: .int .i64 (os.length : Nat) :: x10 :: a9.junk :: a9.junk :: a9.junk :: x14 :: x15 :: a9.junk :: a9.junk :: a9.junk :: a9.junk :: a9.junk :: a9.junk :: a9.junk :: x23 :: a9.junk :: a9.junk :: a9.junk :: a9.junk :: a9.junk :: a9.junk :: a9.junk :: []) h n) :
  ∀ (m i : Nat) (h : Hp) (n : Nat) (L : List Ver) (I : List Inf) (x0 x2 x5 x10 x14 x15 x23 : a9), i + m = os.length → St W h n s L I → Sto L I i → bK h n → (∀ j, j < n0 → h j = h0 j) →
   Run env 58 none Q (.loop CS) ks (x0 :: a9.junk :: x2 :: .ptr s 0 :: a9.junk :: x5 :: a9.junk :: a :: .int .i64 (os.length : Nat) :: .int .i64 (i : Nat) :: x10 :: a9.junk :: a9.junk :: a9.junk :: x14 :: x15 :: a9.junk :: a9.junk :: a9.junk :: a9.junk :: a9.junk :: a9.junk :: a9.junk :: x23 :: a9.junk :: a9.junk :: a9.junk :: a9.junk :: a9.junk :: a9.junk :: a9.junk :: []) h n := by
 obtain ⟨g1, g2⟩ := j7 hg
 intro m
 induction m with
 | zero =>
  intro i h n L I x0 x2 x5 x10 x14 x15 x23 hm hs hS hf ho
  have : i = os.length := by omega
  subst this
  rw [bZ]
  have hcc : ¬ (((os.length : Nat) : Int) < ((os.length : Nat) : Int)) := by omega
  simp only [CS, bO, Try.f58, Option.getD_some, aB, fgr, execOp, opd, aC, put, nth, aA, bor, aJ, aK, intOp, List.getD_cons_zero, hcc, gL, gB]
  exact hT h n L I _ _ _ _ _ _ _ hs hS hf ho
 | succ m ih =>
  intro i h n L I x0 x2 x5 x10 x14 x15 x23 hm hs hS hf ho
  have hil : i < os.length := by omega
  have hcc : (((i : Nat) : Int) < ((os.length : Nat) : Int)) := by omega
  have w1 : IntKind.i64.wrap (((i : Nat) : Int) + 1) = ((i + 1 : Nat) : Int) := by rw [w64 (by omega) (by omega)]; omega
  obtain ⟨mv, sv, e, hA, hw⟩ := ha.at_ i hil
  have hr0 := ha.rd h
  have hmem : os[i] ∈ os := List.getElem_mem hil
  generalize hoi : os[i] = o at *
  obtain ⟨g3, g4, g5⟩ := g2 o hmem
  have hld := wL (h := h) (n := n) ha hil e
  have hAA := hA
  obtain ⟨⟨ys, hm1⟩, ⟨zs, hs1⟩, hb⟩ := hAA
  have sl := hS.n
  have sm := hS.m
  rw [bZ]
  simp only [CS, bO, Try.f58, Option.getD_some, aB, fgr, execOp, opd, aC, put, nth, aA, bor, aJ, aK, intOp, List.getD_cons_zero, hcc, gL, gB]
  rw [aN (hr0.idx (j := i) wR F7 rfl hil)]
  simp only [aB, execOp, opd, aC, put, nth]
  rw [aN hld]
  simp only [aB, execOp, aC, put]
  rw [cG sY rfl]
  simp only [aB, execOp, opd, aC, put, nth, cel]
  refine dW (v := .agg (cU o mv sv)) sY rfl (lR hb) (IK hm1 hs1) hf fun H1 r1 p1 f1 => ?_
  replace r1 : Row H1 n (cU o mv sv) := r1
  have s1 := hs.old (n' := n + 1) (by omega) (fun j hj => p1 j (by omega))
  have sn := hs.sn
  have ho1 : ∀ j, j < n0 → H1 j = h0 j := fun j hj => by rw [p1 j (by omega), ho j hj]
  simp only [aB, tyr, fgr, execOp, opd, aC, put, nth, aA, und, sizeOf, aV, aO, fieldAddr, gL, gI]
  rw [aN (FU r1)]
  simp only [aB, fgr, execOp, opd, ofValue, aC, put, nth, aA, bor, aJ, aK, intOp, gB, gI]
  by_cases c0 : o.kind = 0
  ·simp only [aB, decide_true, c0]
   refine cB ⟨rfl, ?_⟩
   simp only [aF, aH, execOp, opd, aC, put, nth, gI]
   rw [bL (AJ r1 hb)]
   simp only [aF, aH, hkr, execOp, opd, bC, aC, put, nth, aI, aD, Nat.reduceAdd, gL]
   rw [bL (HS s1 (by omega))]
   simp only [aF, hkr, execOp, opd, bC, aC, put, nth, aI, aD, Nat.reduceAdd, gL]
   refine dI f1 (f59 o _ mv sv H1 _ hA (by omega) (by omega) (fun v hv => by have := g5 v hv; omega) f1) fun v2 h2 n2 r2 w2 hn2 f2 ⟨mv2, sv2, e2, a2, o2⟩ => ?_
   subst e2
   have s2 := s1.old hn2 o2
   have ho2 : ∀ j, j < n0 → h2 j = h0 j := fun j hj => by rw [o2 j (by omega), ho1 j hj]
   simp only [aF, hkr, execOp, opd, bC, aC, put, nth, aI, aD, Nat.reduceAdd, gL]
   refine dI f2 (f19 s2 (iV o _) mv2 sv2 (n + 1) n2 a2 (Nat.le_refl _) (fun j q1 q2 w => ?_) (BH (LR hA)) (by omega) (by rw [nA]; omega) f2) fun v3 h3 n3 r3 w3 hn3 f3 ⟨e3, o3, s3⟩ => ?_
   ·obtain ⟨x, lv, _, _, _, _, _, c⟩ := hs
    have := c j w
    omega
   subst e3
   have hS3 := hS.got (iV o (((I.length : Nat) : Int) - 1)) (by rw [nA]; exact g3)
   have ho3 : ∀ j, j < n0 → h3 j = h0 j := fun j hj => by rw [o3 j (by omega) (by omega), ho2 j hj]
   simp only [bS, aB, fgr, execOp, opd, ofValue, aC, put, nth, aA, bor, aJ, aK, intOp, bR, Nat.reduceAdd, gB]
   refine ⟨(by (try simp (disch := first | assumption | omega) only [cV, List.all_cons, List.all_nil, gB, gF]); repeat' (first | rfl | exact (Bool.or_eq_true _ _).mpr (.inr rfl) | refine (Bool.and_eq_true _ _).mpr ⟨?_, ?_⟩)), ?_⟩
   simp only [w1]
   exact ih (i + 1) h3 n3 _ _ _ _ _ _ _ _ _ (by omega) s3 hS3 f3 ho3
  by_cases c1 : o.kind = 1
  ·simp only [aB, tyr, fgr, execOp, opd, ofValue, aC, put, nth, aA, und, sizeOf, bor, aJ, aK, intOp, aV, aO, fieldAddr, Int.reduceEq, beq_self_eq_true, c1, gL, gB, gI]
   rw [aN (IF r1 hb)]
   simp only [aB, hkr, execOp, opd, bC, aC, put, nth, aI, aD, gL]
   refine bB f1 (f22 s1 o.num (by omega) (by omega) f1) fun v2 h2 n2 hn2 f2 ⟨o2, hh⟩ => ?_
   have ho2 : ∀ j, j < n0 → h2 j = h0 j := fun j hj => by rw [o2 j (by omega) (by omega), ho1 j hj]
   rcases hh with ⟨_, e2, s2⟩ | ⟨q1, q2, e2, s2⟩
   ·subst e2
    simp only [aB, fgr, execOp, opd, ofValue, aC, put, nth, aA, bor, aJ, aK, intOp, bR, w1, gB]
    exact ih (i + 1) h2 n2 L I _ _ _ _ _ _ _ (by omega) s2 (hS.up (by omega)) f2 ho2
   ·subst e2
    simp only [aB, fgr, execOp, opd, ofValue, aC, put, nth, aA, bor, aJ, aK, intOp, bR, w1, gB]
    exact ih (i + 1) h2 n2 _ _ _ _ _ _ _ _ _ (by omega) s2 ((hS.cut q1 q2).up (by omega)) f2 ho2
  simp only [aB, fgr, execOp, opd, ofValue, aC, put, nth, aA, bor, aJ, aK, intOp, bR, c0, c1, w1, gB, gI]
  exact ih (i + 1) H1 (n + 1) L I _ _ _ _ _ _ _ (by omega) s1 (hS.up (by omega)) f1 ho1
theorem f58 (a : a9) (os : List OpS) (xs : List a9) (h : Hp) (n : Nat) (ha : tJ a os xs) (hg : lE os = false) (hf : bK h n) :
  Wp (aZ env (evalW env) 58 [a]) h n fun v' h' n' => ∃ s L I, v' = .ptr s 0 ∧ n ≤ s ∧ St (fun j => j = s) h' n' s L I ∧ Sto L I 30 ∧ Old h h' n := by
 obtain ⟨g1, g2⟩ := j7 hg
 have hr0 := ha.rd
 refine bI ff58 fi58 ?_
 simp only [U0, Try.f58, Option.getD_some, List.replicate, aB, fgr, hkr, execOp, opd, bC, ofValue, aC, put, aA, aI, aD, ended, aP, aQ, Nat.reduceSub, gL, gI]
 refine bB hf (f26 (fun _ => False) h n hf (fun _ w => w.elim)) fun v1 h1 n1 hn1 f1 ⟨s, e1, hx, s1, o1⟩ => ?_
 subst e1
 have s1' : St (fun j => j = s) h1 n1 s [] [] := by
  have : (fun j => False ∨ j = s) = fun j => j = s := funext fun j => propext ⟨fun q => q.elim (fun q => q.elim) id, .inr⟩
  rw [← this]
  exact s1
 simp only [aB, fgr, execOp, opd, bC, ofValue, aC, put, nth, aA, aI, builtin, dB, (hr0 h1).cI wR]
 refine SP _ _ a os xs (fun j => j = s) s n h1 ha hg hx ?_ os.length 0 h1 n1 [] [] _ _ _ _ _ _ _ (by omega) s1' Sto.none f1 (fun j hj => rfl)
 intro h2 n2 L I x0 x2 x5 x10 x14 x15 x23 s2 hS f2 ho
 simp only [aB, fgr, execOp, opd, aC, put, nth, aA, gB]
 exact ⟨s, L, I, rfl, hx, s2, hS.up g1, fun j hj => by rw [ho j hj, o1 j hj]⟩
def hb_ (x : UInt8) : List UInt8 := x :: List.replicate 31 0
def nw (pn made value : Int) (s : List UInt8) : Ver := ⟨z0, pn, made, value, s, false, 0, z0⟩
theorem IX (pn made value : Int) (s : List UInt8) : (nw pn made value s).Ok := ⟨rfl, rfl⟩
theorem f16 (k : Int) (h : Hp) (n : Nat) (hf : bK h n) : Wp (aZ env (evalW env) 16 [.int .u32 k]) h n fun v' h' n' => v' = .agg (aX z0 k) ∧ Old h h' n := by
 have b28 : build env 28 [(1, .int .u32 k)] = M.pure (.agg (aX z0 k)) := rfl
 refine bI ff16 fi16 ?_
 simp only [UK, Try.f16, Option.getD_some, List.replicate, aB, execOp, ended, aP, aQ, Nat.reduceSub, gL, gI]
 rw [cG j3 rfl]
 obtain ⟨H1, hH1⟩ : ∃ H1, H1 = upd h n (some (.row (.l F9.i.zero.cells) 28)) := ⟨_, rfl⟩
 have g1 : H1 n = some (.row (.l F9.i.zero.cells) 28) := by rw [hH1, aU]
 have o1 : ∀ j, j ≠ n → H1 j = h j := fun j hj => by rw [hH1, aR _ _ hj]
 show Ops _ _ _ _ _ _ _ _ (upd h n (some (.row (.l F9.i.zero.cells) 28))) _
 rw [← hH1]
 clear hH1
 simp only [aB, fgr, execOp, opd, dA, aC, put, nth, aA, b28]
 rw [eC (Row.write (off := 0) (v := .agg (aX z0 k)) g1 j3 (bY rfl) (by decide) (pY _ _))]
 rw [eN (by rfl)]
 simp only [aB, fgr, aC, nth, aA, cel, true_and]
 refine eV (Row.whole (cs := aX z0 k) ⟨28, aU _ _ _⟩ j3 rfl (bY rfl)) (wp_pure.2 ?_)
 exact ⟨rfl, fun j hj => by rw [aR _ _ (by omega), o1 j (by omega)]⟩
theorem HE {h : Hp} {a b id cnt : Nat} {vs : List Ver} {cells : List a9} (hh : h id = some (.row (.l cells) 31)) (hl : vs.length = cnt) (v : Vs h (fun j => a ≤ j ∧ j < b ∧ j ≠ id) cells vs) (h1 : a ≤ id) (h2 : id < b) : VL h a b (.sl id 0 cnt (some cnt) 70) vs := by
 subst hl
 have e := v.len
 exact ⟨cells, .sl id _ (some vs.length) cells cells hh (by omega) (fun k q => by injection q with q; omega) (by rw [List.take_of_length_le (by omega)]), v.mono (fun j q => ⟨q.1, q.2.1, fun w => by injection w with w; exact q.2.2 w.symm⟩) (fun j q => rfl), fun j q => by injection q with q; omega⟩
theorem QH {h : Hp} {a b id cnt : Nat} {ss : List Spd} {cells : List a9} (hh : h id = some (.row (.l cells) 48)) (hl : ss.length = cnt) (he : cells.length = cnt * 65) (hs : ∀ (j : Nat) (hj : j < ss.length), (cells.drop (j * 65)).take 65 = eO ss[j] ∧ ss[j].Ok) (h1 : a ≤ id) (h2 : id < b) : SL h a b (.sl id 0 cnt (some cnt) 65) ss := by
 subst hl
 exact ⟨cells, .sl id _ (some ss.length) cells cells hh (by omega) (fun k q => by injection q with q; omega) (by rw [List.take_of_length_le (by omega)]), hs, fun j q => by injection q with q; omega⟩
theorem MC {h : Hp} {a b : Nat} : SL h a b .nils [] := ⟨[], .nil, fun j hj => by simp at hj, fun j q => by cases q⟩
def UQ : App := ⟨0, hb_ 1, [nw 1 0 50 [115]], [], 0, 0⟩
def KC : App := ⟨1, hb_ 2, [nw 2 1 30 [115], nw 3 1 20 [116]], [⟨z0, 1, hb_ 9⟩], 3, 4⟩
def zM : Inf := ⟨0, hb_ 1, 1, 50, 0, 0⟩
def sQ : Inf := ⟨1, hb_ 2, 2, 50, 3, 4⟩
def NV : List Ver := [iR (nw 1 0 50 [115]) 1 (hb_ 9), nw 2 1 30 [115], nw 3 1 20 [116]]
theorem ex_1 : eS [] [] UQ = some ([nw 1 0 50 [115]], [zM]) := by kernel_rfl
theorem ex_2 : eS [nw 1 0 50 [115]] [zM] KC = some (NV, [zM, sQ]) := by kernel_rfl
theorem ZY : build env 25 [(0, .int .u8 1)] = M.pure (.agg ((hb_ 1).map u8)) := rfl
theorem PA : build env 25 [(0, .int .u8 2)] = M.pure (.agg ((hb_ 2).map u8)) := rfl
theorem ZX : build env 25 [(0, .int .u8 9)] = M.pure (.agg ((hb_ 9).map u8)) := rfl
theorem b31a (n : Nat) (k value : Int) (s : List UInt8) : build env 31 [(0, .agg (aX z0 k)), (2, .int .i64 value), (3, .sl n 0 1 (some 1) 1)] = M.pure (.agg (aS (nw k 0 value s) (.sl n 0 1 (some 1) 1))) := rfl
theorem ZW (n : Nat) (k made value : Int) (s : List UInt8) : build env 31 [(0, .agg (aX z0 k)), (1, .int .i64 made), (2, .int .i64 value), (3, .sl n 0 1 (some 1) 1)] = M.pure (.agg (aS (nw k made value s) (.sl n 0 1 (some 1) 1))) := rfl
theorem b46a (b : UInt8) (n : Nat) : build env 46 [(1, .agg ((hb_ b).map u8)), (2, .sl n 0 1 (some 1) 70)] = M.pure (.agg (bH ⟨0, hb_ b, [], [], 0, 0⟩ (.sl n 0 1 (some 1) 70) .nils)) := rfl
theorem UU {X Y : List a9} (hX : X.length = 70) (hY : Y.length = 70) : buildSlice env 43 2 [(0, .agg X), (1, .agg Y)] = (newRow env 31 (X ++ Y)).bind fun id => M.pure (.sl id 0 2 (some 2) 70) := by
 have e1 : fill (fun k => some (k * 70, 70)) (fF fD.i.zero.cells 2) [(0, .agg X), (1, .agg Y)] = some (X ++ Y) := by
  have : fF fD.i.zero.cells 2 = [] ++ fD.i.zero.cells ++ fD.i.zero.cells := rfl
  rw [this, gO (off := 0) (sz := 70) (pre := []) (mid := fD.i.zero.cells) (post := fD.i.zero.cells) (v := .agg X) (rest := [(1, .agg Y)]) rfl rfl rfl hX rfl]
  have e : ([] ++ (a9.agg X).cells ++ fD.i.zero.cells) = X ++ fD.i.zero.cells ++ [] := by simp [a9.cells]
  rw [e, gO (off := 70) (sz := 70) (pre := X) (mid := fD.i.zero.cells) (post := []) (v := .agg Y) (rest := []) rfl hX rfl hY rfl]
  simp [fill, a9.cells]
 have e2 : buildSlice env 43 2 [(0, .agg X), (1, .agg Y)] = (aV "buildSlice" (fill (fun k => some (k * 70, 70)) (fF fD.i.zero.cells 2) [(0, .agg X), (1, .agg Y)])).bind fun cs => (newRow env 31 cs).bind fun id => M.pure (.sl id 0 2 (some 2) 70) := rfl
 rw [e2, e1]
 rfl
theorem bs44 {X : List a9} (hX : X.length = 65) : buildSlice env 44 1 [(0, .agg X)] = (newRow env 48 X).bind fun id => M.pure (.sl id 0 1 (some 1) 65) := by
 have e1 : fill (fun k => some (k * 65, 65)) (fF yP.i.zero.cells 1) [(0, .agg X)] = some X := by
  have : fF yP.i.zero.cells 1 = [] ++ yP.i.zero.cells ++ [] := rfl
  rw [this, gO (off := 0) (sz := 65) (pre := []) (mid := yP.i.zero.cells) (post := []) (v := .agg X) (rest := []) rfl rfl rfl hX rfl]
  simp [fill, a9.cells]
 have e2 : buildSlice env 44 1 [(0, .agg X)] = (aV "buildSlice" (fill (fun k => some (k * 65, 65)) (fF yP.i.zero.cells 1) [(0, .agg X)])).bind fun cs => (newRow env 48 cs).bind fun id => M.pure (.sl id 0 1 (some 1) 65) := rfl
 rw [e2, e1]
 rfl
theorem b48a (k : Int) (b : UInt8) : build env 48 [(0, .agg (aX z0 k)), (1, .agg ((hb_ b).map u8))] = M.pure (.agg (eO ⟨z0, k, hb_ b⟩)) := rfl
theorem b46b (b : UInt8) (n m : Nat) (height burnt left : Int) : build env 46 [(0, .int .i64 height), (1, .agg ((hb_ b).map u8)), (4, .int .i64 burnt), (5, .int .i64 left), (2, .sl n 0 2 (some 2) 70), (3, .sl m 0 1 (some 1) 65)] = M.pure (.agg (bH ⟨height, hb_ b, [], [], burnt, left⟩ (.sl n 0 2 (some 2) 70) (.sl m 0 1 (some 1) 65))) := rfl
theorem f14 (W : Nat → Prop) (h : Hp) (n : Nat) (hf : bK h n) (hw : ∀ j, W j → j < n) : Wp (aZ env (evalW env) 14 []) h n fun v' h' n' => ∃ s, v' = .ptr s 0 ∧ n ≤ s ∧ St (fun j => W j ∨ j = s) h' n' s NV [zM, sQ] ∧ Old h h' n := by
 refine bI ff14 fi14 ?_
 simp only [UL, Try.f14, Option.getD_some, List.replicate, aB, fgr, hkr, execOp, opd, bC, ofValue, aC, put, aA, aI, aD, ended, aP, aQ, Nat.reduceSub, gL, gI]
 refine bB hf (f26 W h n hf hw) fun v1 h1 n1 hn1 f1 ⟨s, e1, hx, s1, o1⟩ => ?_
 subst e1
 have sn := s1.sn
 simp only [aB, fgr, hkr, execOp, opd, bC, ofValue, dA, aC, put, nth, aA, aI, aD, ZY, gL]
 refine bB f1 (f16 1 h1 n1 f1) fun v2 h2 n2 hn2 f2 ⟨e2, o2⟩ => ?_
 subst e2
 simp only [aB, tyr, execOp, opd, ofValue, dA, aC, put, und, cel, aV, Nat.beq, buildSlice, fF, fill, List.take_zero, List.drop_succ_cons, List.drop_zero, Nat.ble, Nat.one_mul, gL, gB, gI]
 refine j6 ti5 f2 (f := fun id => a9.sl id 0 1 (some 1) 1) fun H3 r3 o3 f3 => ?_
 have bb3 : Bytes H3 (.sl n2 0 1 (some 1) 1) [115] := Bytes.fresh (l := [115]) r3
 simp only [aB, tyr, execOp, opd, ofValue, dA, aC, put, nth, und, lenOf, dH, cP, cO, Nat.beq, reduceCtorEq, Option.some.injEq, exists_eq_left', ne_eq, convert, gX, qD, r3, kQ r3, uL, show (Nat.blt 0 1) = true from rfl, b31a _ _ _ [115], OB (bV (v := nw 1 0 50 [115]) rfl rfl), gB]
 refine j6 eX f3 (f := fun id => a9.sl id 0 1 (some 1) 70) fun H4 r4 o4 f4 => ?_
 simp only [aB, hkr, execOp, opd, bC, dA, aC, put, nth, aI, aD, b46a, gL]
 have bb4 := bb3.aT (h' := H4) fun j q => o4 j (by injection q with q; omega)
 have v4 : VL H4 n1 (n2 + 1 + 1) (.sl (n2 + 1) 0 1 (some 1) 70) [nw 1 0 50 [115]] := HE r4 rfl ((Vs.nil H4 _).snoc bb4 (IX _ _ _ _) fun i q => by injection q with q; omega) (by omega) (by omega)
 have a4 : jD H4 n1 (n2 + 1 + 1) UQ (.sl (n2 + 1) 0 1 (some 1) 70) .nils := ⟨v4, MC, rfl, by decide, by decide⟩
 have s4 := s1.old (n' := n2 + 1 + 1) (by omega) (h' := H4) fun j hj => by rw [o4 j (by omega), o3 j (by omega), o2 j hj]
 have nW : ∀ j, n1 ≤ j → ¬ (W j ∨ j = s) := fun j q w => by
  rcases w with w | w
  ·have := hw j w; omega
  ·omega
 refine bB f4 (f19 s4 UQ _ _ n1 (n2 + 1 + 1) a4 (Nat.le_refl _) (fun j q1 q2 => nW j q1) (by decide) (by decide) (by decide) f4) fun v5 h5 n5 hn5 f5 ⟨e5, o5, s5⟩ => ?_
 rw [ex_1] at e5 s5
 subst e5
 simp only [Option.getD_some] at s5
 have oo5 : ∀ j, j < n → h5 j = h j := fun j hj => by rw [o5 j (by omega) (by omega), o4 j (by omega), o3 j (by omega), o2 j (by omega), o1 j hj]
 simp only [aB, fgr, execOp, opd, ofValue, dA, aC, put, nth, aA, DR]
 simp only [aB, hkr, execOp, opd, bC, ofValue, aC, put, aI, aD, PA, gL]
 refine bB f5 (f16 2 h5 n5 f5) fun v6 h6 n6 hn6 f6 ⟨e6, o6⟩ => ?_
 subst e6
 simp only [aB, tyr, execOp, opd, ofValue, dA, aC, put, und, cel, aV, Nat.beq, buildSlice, fF, fill, List.take_zero, List.drop_succ_cons, List.drop_zero, Nat.ble, Nat.one_mul, gL, gB, gI]
 refine j6 ti5 f6 (f := fun id => a9.sl id 0 1 (some 1) 1) fun H7 r7 o7 f7 => ?_
 have bb7 : Bytes H7 (.sl n6 0 1 (some 1) 1) [115] := Bytes.fresh (l := [115]) r7
 simp only [aB, tyr, hkr, execOp, opd, bC, ofValue, dA, aC, put, nth, aI, aD, und, lenOf, dH, cP, cO, Nat.beq, reduceCtorEq, Option.some.injEq, exists_eq_left', ne_eq, convert, gX, qD, r7, kQ r7, uL, show (Nat.blt 0 1) = true from rfl, ZW _ _ _ _ [115], gL, gB]
 refine bB f7 (f16 3 H7 _ f7) fun v8 h8 n8 hn8 f8 ⟨e8, o8⟩ => ?_
 subst e8
 have bb8 := bb7.aT (h' := h8) fun j q => o8 j (by injection q with q; omega)
 simp only [aB, tyr, execOp, opd, ofValue, dA, aC, put, und, cel, aV, Nat.beq, buildSlice, fF, fill, List.take_zero, List.drop_succ_cons, List.drop_zero, Nat.ble, Nat.one_mul, gL, gB, gI]
 refine j6 ti5 f8 (f := fun id => a9.sl id 0 1 (some 1) 1) fun H9 r9 o9 f9 => ?_
 have bb9 : Bytes H9 (.sl n8 0 1 (some 1) 1) [116] := Bytes.fresh (l := [116]) r9
 have bc9 := bb8.aT (h' := H9) fun j q => o9 j (by injection q with q; omega)
 simp only [aB, tyr, execOp, opd, ofValue, dA, aC, put, nth, und, lenOf, dH, cP, cO, Nat.beq, reduceCtorEq, Option.some.injEq, exists_eq_left', ne_eq, convert, gX, qD, r9, kQ r9, uL, show (Nat.blt 0 1) = true from rfl, ZW _ _ _ _ [116], UU (bV (v := nw 2 1 30 [115]) rfl rfl) (bV (v := nw 3 1 20 [116]) rfl rfl), gB]
 refine j6 eX f9 (f := fun id => a9.sl id 0 2 (some 2) 70) fun H10 r10 o10 f10 => ?_
 have bb10 := bb9.aT (h' := H10) fun j q => o10 j (by injection q with q; omega)
 have bc10 := bc9.aT (h' := H10) fun j q => o10 j (by injection q with q; omega)
 simp only [aB, hkr, execOp, opd, bC, ofValue, aC, put, aI, aD, gL]
 refine bB f10 (f16 1 H10 _ f10) fun v11 h11 n11 hn11 f11 ⟨e11, o11⟩ => ?_
 subst e11
 simp only [aB, execOp, opd, ofValue, dA, aC, put, nth, ZX, b48a, bs44 (kU (s := ⟨z0, 1, hb_ 9⟩) ⟨rfl, rfl⟩)]
 refine j6 wS f11 (f := fun id => a9.sl id 0 1 (some 1) 65) fun H12 r12 o12 f12 => ?_
 simp only [aB, hkr, execOp, opd, bC, ofValue, dA, aC, put, nth, aI, aD, b46b, gL]
 have t12 : ∀ j, j < n8 + 1 + 1 → H12 j = H10 j := fun j hj => by rw [o12 j (by omega), o11 j (by omega)]
 have bb12 := bb10.aT (h' := H12) fun j q => t12 j (by injection q with q; omega)
 have bc12 := bc10.aT (h' := H12) fun j q => t12 j (by injection q with q; omega)
 have r12' : H12 (n8 + 1) = some (.row (.l (aS (nw 2 1 30 [115]) (.sl n6 0 1 (some 1) 1) ++ aS (nw 3 1 20 [116]) (.sl n8 0 1 (some 1) 1))) 31) := (t12 _ (by omega)).trans r10
 have v12 : VL H12 n5 (n11 + 1) (.sl (n8 + 1) 0 2 (some 2) 70) KC.made := HE r12' rfl (((Vs.nil H12 _).snoc bc12 (IX 2 1 30 _) fun i q => by injection q with q; omega).snoc bb12 (IX 3 1 20 _) fun i q => by injection q with q; omega) (by omega) (by omega)
 have a12 : jD H12 n5 (n11 + 1) KC (.sl (n8 + 1) 0 2 (some 2) 70) (.sl n11 0 1 (some 1) 65) := ⟨v12, QH r12 rfl rfl (fun j hj => by
  have : j = 0 := by have : KC.spends.length = 1 := rfl; omega
  subst this
  exact ⟨rfl, rfl, rfl⟩) (by omega) (by omega), rfl, by decide, by decide⟩
 have x12 : ∀ j, j < n5 → H12 j = h5 j := fun j hj => by rw [t12 j (by omega), o10 j (by omega), o9 j (by omega), o8 j (by omega), o7 j (by omega), o6 j hj]
 have s12 := s5.old (n' := n11 + 1) (by omega) (h' := H12) x12
 refine bB f12 (f19 s12 KC _ _ n5 (n11 + 1) a12 (Nat.le_refl _) (fun j q1 q2 => nW j (by omega)) (by decide) (by decide) (by decide) f12) fun v13 h13 n13 hn13 f13 ⟨e13, o13, s13⟩ => ?_
 rw [ex_2] at e13 s13
 subst e13
 simp only [Option.getD_some] at s13
 simp only [aB, fgr, execOp, opd, ofValue, aC, put, nth, aA, bor, aJ, aK, intOp, aW, branch, bne_self_eq_false, DR, gL, gB]
 refine ⟨s, rfl, hx, s13, fun j hj => by rw [o13 j (by omega) (by omega), x12 j (by omega), oo5 j hj]⟩
def eqI (a b : Inf) : Bool := (a.height == b.height) && (decide (a.block = b.block) && ((a.coins == b.coins) && ((a.total == b.total) && ((a.burnt == b.burnt) && (a.left == b.left)))))
theorem BA (a : Inf) : eqI a a = true := by simp [eqI]
theorem xU {i : Inf} (hb : i.block.length = 32) : part env 25 (bP i) 1 = M.pure (.agg (i.block.map u8)) := by
 simp only [part, mR, bind_pure, eD]
 rw [show ((bP i).drop 1).take 32 = i.block.map u8 by unfold bP; rw [List.drop_succ_cons, List.drop_zero, List.take_append_of_le_length (by simp [hb]), List.take_of_length_le (by simp [hb])]]
theorem ZL (d : Nat) (a b : Inf) (ha : a.block.length = 32) (hb : b.block.length = 32) : equal env (d + 1 + 1 + 1) 61 (.agg (bP a)) (.agg (bP b)) = M.pure (eqI a b) := by
 have hq : xA env env.eqs 61 = true := rfl
 have p0 : ∀ (i : Inf), part env 3 (bP i) 0 = M.pure (.int .i64 i.height) := fun i => rfl
 have pk : ∀ (i : Inf) (k : Nat) (v : a9) (t : TypeId) (tt : ti env t = M.pure ty2.i ∨ ti env t = M.pure ty3.i), i.block.length = 32 → [a9.int .i64 i.coins, .int .i64 i.total, .int .i64 i.burnt, .int .i64 i.left][k]? = some v → part env t (bP i) (33 + k) = M.pure v := fun i k v t tt hl e => by
  rcases tt with tt | tt <;> simp only [part, tt, bind_pure, show eD ty2.i.desc = false from rfl, show eD ty3.i.desc = false from rfl, lC hl k, e, aV]
 have q3 : ∀ x y, equal env (d + 1 + 1) 3 (.int .i64 x) (.int .i64 y) = M.pure (x == y) := fun x y => by
  simp only [equal, und, ti3, bind_pure, decide_true]
 have q2 : ∀ x y, equal env (d + 1 + 1) 2 (.int .i64 x) (.int .i64 y) = M.pure (x == y) := fun x y => by
  simp only [equal, und, ti2, bind_pure, decide_true]
 rw [equal]
 ·simp only [und, gJ, bind_pure, hq, dQ]
  simp only [allM, show decide ("Height" = "_") = false from rfl, show decide ("Block" = "_") = false from rfl, show decide ("Coins" = "_") = false from rfl, show decide ("Total" = "_") = false from rfl, show decide ("Burnt" = "_") = false from rfl, show decide ("Left" = "_") = false from rfl, p0, xU ha, xU hb, bind_pure, KD d a.block b.block ha hb, pk a 0 _ 3 (.inr ti3) ha rfl, pk b 0 _ 3 (.inr ti3) hb rfl, pk a 1 _ 2 (.inl ti2) ha rfl, pk b 1 _ 2 (.inl ti2) hb rfl, pk a 2 _ 2 (.inl ti2) ha rfl, pk b 2 _ 2 (.inl ti2) hb rfl, pk a 3 _ 2 (.inl ti2) ha rfl, pk b 3 _ 2 (.inl ti2) hb rfl, q2, q3, Bool.and_true]
  rfl
 all_goals (intro k n h; cases h)
theorem ZK (a b : Inf) (ha : a.block.length = 32) (hb : b.block.length = 32) : aY env .eql 61 (.agg (bP a)) (.agg (bP b)) = M.pure (.bool (eqI a b)) := by
 have e := ZL 97 a b ha hb
 unfold aY
 simp only
 unfold bG
 rw [e, bind_pure]
theorem X0 (a b : Inf) (ha : a.block.length = 32) (hb : b.block.length = 32) : aY env .neq 61 (.agg (bP a)) (.agg (bP b)) = M.pure (.bool (!eqI a b)) := by
 have e := ZL 97 a b ha hb
 unfold aY
 simp only
 unfold bG
 rw [e, bind_pure]
theorem ZJ : DP NV [zM, sQ] [115] 0 = 50 := by kernel_rfl
theorem ZI : DP NV [zM, sQ] [115] 1 = 30 := by kernel_rfl
theorem ZH : AW (nE [zM, sQ] 0) = 0 := by kernel_rfl
theorem P5 : AW (nE [zM, sQ] 1) = 0 := by kernel_rfl
theorem ZG : (nE [zM, sQ] 1).getD gR = sQ := by kernel_rfl
theorem b61x (height coins total burnt left : Int) (b : UInt8) : build env 61 [(0, .int .i64 height), (1, .agg ((hb_ b).map u8)), (2, .int .i64 coins), (3, .int .i64 total), (4, .int .i64 burnt), (5, .int .i64 left)] = M.pure (.agg (bP ⟨height, hb_ b, coins, total, burnt, left⟩)) := rfl
theorem f27 (h : Hp) (n : Nat) (hf : bK h n) : Wp (aZ env (evalW env) 27 []) h n fun v' h' n' => v' = .bool true ∧ Old h h' n := by
 refine bI ff27 fi27 ?_
 simp only [UD, Try.f27, Option.getD_some, List.replicate, aB, fgr, hkr, execOp, opd, bC, ofValue, aC, put, aA, aI, aD, ended, aP, aQ, Nat.reduceSub, gL, gI]
 refine bB hf (f14 (fun _ => False) h n hf (fun j w => w.elim)) fun v1 h1 n1 hn1 f1 ⟨s, e1, hx, s1, o1⟩ => ?_
 subst e1
 simp only [aB, tyr, fgr, execOp, opd, ofValue, dA, aC, put, nth, aA, und, cel, aV, Nat.beq, buildSlice, fF, fill, List.take_zero, List.drop_succ_cons, List.drop_zero, Nat.ble, Nat.one_mul, gL, gB, gI]
 refine j6 ti5 f1 (f := fun id => a9.sl id 0 1 (some 1) 1) fun H2 r2 o2 f2 => ?_
 have bb2 : Bytes H2 (.sl n1 0 1 (some 1) 1) [115] := Bytes.fresh (l := [115]) r2
 have s2 := s1.old (n' := n1 + 1) (by omega) (h' := H2) fun j hj => o2 j (by omega)
 simp only [aB, tyr, hkr, execOp, opd, bC, ofValue, aC, put, nth, aI, aD, und, lenOf, dH, cP, cO, Nat.beq, reduceCtorEq, Option.some.injEq, exists_eq_left', ne_eq, convert, gX, qD, r2, kQ r2, uL, show (Nat.blt 0 1) = true from rfl, gL, gB]
 refine bB f2 (f60 s2 _ [115] 0 bb2 (fun j q => by injection q with q; omega) (by decide) (by decide) f2) fun v3 h3 n3 hn3 f3 ⟨e3, o3⟩ => ?_
 subst e3
 have s3 := s2.old hn3 o3
 simp only [aB, tyr, fgr, execOp, opd, ofValue, dA, aC, put, nth, aA, und, cel, extract, aV, Nat.beq, buildSlice, fF, fill, List.take_zero, List.drop_succ_cons, List.drop_zero, Nat.ble, Nat.one_mul, ZJ, ZH, gL, gB, gI]
 refine j6 ti5 f3 (f := fun id => a9.sl id 0 1 (some 1) 1) fun H4 r4 o4 f4 => ?_
 have bb4 : Bytes H4 (.sl n3 0 1 (some 1) 1) [115] := Bytes.fresh (l := [115]) r4
 have s4 := s3.old (n' := n3 + 1) (by omega) (h' := H4) fun j hj => o4 j (by omega)
 simp only [aB, tyr, hkr, execOp, opd, bC, ofValue, aC, put, nth, aI, aD, und, lenOf, dH, cP, cO, Nat.beq, reduceCtorEq, Option.some.injEq, exists_eq_left', ne_eq, convert, gX, qD, r4, kQ r4, uL, show (Nat.blt 0 1) = true from rfl, gL, gB]
 refine bB f4 (f60 s4 _ [115] 1 bb4 (fun j q => by injection q with q; omega) (by decide) (by decide) f4) fun v5 h5 n5 hn5 f5 ⟨e5, o5⟩ => ?_
 subst e5
 have s5 := s4.old hn5 o5
 simp only [aB, fgr, hkr, execOp, opd, bC, ofValue, aC, put, nth, aA, aI, aD, extract, aV, ZI, P5, gL]
 refine bB f5 (f25 s5 1 (by decide) f5) fun v6 h6 n6 hn6 f6 ⟨e6, ob6, o6⟩ => ?_
 subst e6
 simp only [aB, execOp, opd, aC, put, nth, extract, aV, ZG, P5, gL]
 rw [cG gJ rfl]
 simp only [aB, execOp, opd, aC, put, nth, cel]
 refine dW (v := .agg (bP sQ)) gJ rfl rfl (fA _) f6 fun H7 r7 p7 f7 => ?_
 replace r7 : Row H7 n6 (bP sQ) := r7
 simp only [aB, fgr, execOp, opd, ofValue, aC, put, nth, aA, bor, aJ, aK, intOp, aW, branch, beq_self_eq_true, gL, gB]
 rw [aN (r7.whole gJ rfl rfl)]
 simp only [aB, fgr, execOp, opd, ofValue, dA, aC, put, nth, aA, bor, aW, branch, PA, b61x, ZK sQ ⟨1, hb_ 2, 2, 50, 3, 4⟩ rfl rfl, show eqI sQ ⟨1, hb_ 2, 2, 50, 3, 4⟩ = true from BA sQ, gL, gB]
 exact fun j hj => by rw [p7 j (by omega), o6 j (by omega), o5 j (by omega), o4 j (by omega), o3 j (by omega), o2 j (by omega), o1 j hj]
structure sB (L : List Ver) (I : List Inf) (L' : List Ver) (I' : List Inf) : Prop where
 c : iH (((I.length : Nat) : Int) - 1) L' = L
 n : I.length ≤ I'.length
 p : I'.take I.length = I
theorem sB.refl {L : List Ver} {I : List Inf} {k : Nat} (s : Sto L I k) : sB L I L I := ⟨KI s.i (Int.le_refl _), Nat.le_refl _, List.take_length⟩
theorem sB.got {L L' : List Ver} {I I' : List Inf} {k : Nat} (a : sB L I L' I') (s : Sto L' I' k) (A : App) : sB L I (GD L' I' A).1 (GD L' I' A).2 := by
 unfold GD
 cases e : eS L' I' A with
 | none => exact a
 | some q =>
  obtain ⟨b, c, x, d, f⟩ := BI s.i e
  have n := a.n
  show sB L I q.1 q.2
  refine ⟨(c _ (by omega)).trans a.c, by rw [d, List.length_append]; omega, ?_⟩
  rw [d, List.take_append_of_le_length n]
  exact a.p
theorem JA (Q : eB) (ks : List Kf) (a0 a : a9) (os : List OpS) (xs : List a9) (W : Nat → Prop) (s c n0 : Nat) (v : a9) (L : List Ver) (I : List Inf) (h0 : Hp) (ha : tJ a os xs) (hg : lE os = false) (hs0 : s < n0) (hW : ∀ j, W j → j < n0) (hS0 : Sto L I 30) (x1 : a9)
  (hT : ∀ (h : Hp) (n : Nat) (L' : List Ver) (I' : List Inf) (x4 x11 x12 x13 x14 x15 x16 x29 x42 x74 x77 x102 : a9), St W h n s L' I' → Sto L' I' (30 + os.length) → sB L I L' I' → n0 ≤ n → bK h n → (∀ j, j < n0 → j ≠ s → h j = h0 j) →
   dL env 10 none Q ks (.exit 0) (a0 :: x1 :: a9.junk :: a9.junk :: x4 :: .bool true :: .ptr s 0 :: v :: .int .i64 ((I.length : Nat) - 1) :: .ptr c 0 :: a9.junk :: x11 :: x12 :: x13 :: x14 :: x15 :: x16 :: a9.junk :: a9.junk :: a9.junk :: a9.junk :: a9.junk :: a9.junk :: a9.junk :: a9.junk :: a9.junk :: a9.junk :: a9.junk :: a9.junk :: x29 :: a9.junk :: a9.junk :: a9.junk :: a9.junk :: a9.junk :: a9.junk :: a9.junk :: a9.junk :: a9.junk :: a :: .int .i64 (os.length : Nat) :: .int .i64 (os.length : Nat) :: x42 :: a9.junk :: a9.junk :: a9.junk :: a9.junk :: a9.junk :: a9.junk :: a9.junk :: a9.junk :: a9.junk :: a9.junk :: a9.junk :: a9.junk :: a9.junk :: a9.junk :: a9.junk :: a9.junk :: a9.junk :: a9.junk :: a9.junk :: a9.junk :: a9.junk :: a9.junk :: a9.junk :: a9.junk :: a9.junk :: a9.junk :: a9.junk :: a9.junk :: a9.junk :: a9.junk :: a9.junk :: x74 :: a9.junk :: a9.junk :: x77 :: a9.junk :: a9.junk :: a9.junk :: a9.junk :: a9.junk :: a9.junk :: a9.junk :: a9.junk :: a9.junk :: a9.junk :: a9.junk :: a9.junk :: a9.junk :: a9.junk :: a9.junk :: a9.junk :: a9.junk :: a9.junk :: a9.junk :: a9.junk :: a9.junk :: a9.junk :: a9.junk :: a9.junk :: x102 :: a9.junk :: a9.junk :: a9.junk :: a9.junk :: a9.junk :: a9.junk :: a9.junk :: []) h n) :
  ∀ (m i : Nat) (h : Hp) (n : Nat) (L' : List Ver) (I' : List Inf) (x4 x11 x12 x13 x14 x15 x16 x29 x42 x74 x77 x102 : a9), i + m = os.length → St W h n s L' I' → Sto L' I' (30 + i) → sB L I L' I' → n0 ≤ n → bK h n → (∀ j, j < n0 → j ≠ s → h j = h0 j) →
   Run env 10 none Q (.loop CY) ks (a0 :: x1 :: a9.junk :: a9.junk :: x4 :: .bool true :: .ptr s 0 :: v :: .int .i64 ((I.length : Nat) - 1) :: .ptr c 0 :: a9.junk :: x11 :: x12 :: x13 :: x14 :: x15 :: x16 :: a9.junk :: a9.junk :: a9.junk :: a9.junk :: a9.junk :: a9.junk :: a9.junk :: a9.junk :: a9.junk :: a9.junk :: a9.junk :: a9.junk :: x29 :: a9.junk :: a9.junk :: a9.junk :: a9.junk :: a9.junk :: a9.junk :: a9.junk :: a9.junk :: a9.junk :: a :: .int .i64 (os.length : Nat) :: .int .i64 (i : Nat) :: x42 :: a9.junk :: a9.junk :: a9.junk :: a9.junk :: a9.junk :: a9.junk :: a9.junk :: a9.junk :: a9.junk :: a9.junk :: a9.junk :: a9.junk :: a9.junk :: a9.junk :: a9.junk :: a9.junk :: a9.junk :: a9.junk :: a9.junk :: a9.junk :: a9.junk :: a9.junk :: a9.junk :: a9.junk :: a9.junk :: a9.junk :: a9.junk :: a9.junk :: a9.junk :: a9.junk :: a9.junk :: x74 :: a9.junk :: a9.junk :: x77 :: a9.junk :: a9.junk :: a9.junk :: a9.junk :: a9.junk :: a9.junk :: a9.junk :: a9.junk :: a9.junk :: a9.junk :: a9.junk :: a9.junk :: a9.junk :: a9.junk :: a9.junk :: a9.junk :: a9.junk :: a9.junk :: a9.junk :: a9.junk :: a9.junk :: a9.junk :: a9.junk :: a9.junk :: x102 :: a9.junk :: a9.junk :: a9.junk :: a9.junk :: a9.junk :: a9.junk :: a9.junk :: []) h n := by
 obtain ⟨g1, g2⟩ := j7 hg
 intro m
 induction m with
 | zero =>
  intro i h n L' I' x4 x11 x12 x13 x14 x15 x16 x29 x42 x74 x77 x102 hm hs hS hA' hn hf ho
  have : i = os.length := by omega
  subst this
  rw [bZ]
  have hcc : ¬ (((os.length : Nat) : Int) < ((os.length : Nat) : Int)) := by omega
  simp only [CY, bO, Try.f10, Option.getD_some, aB, fgr, execOp, opd, aC, put, nth, aA, bor, aJ, aK, intOp, List.getD_cons_zero, hcc, gL, gB]
  exact hT h n L' I' _ _ _ _ _ _ _ _ _ _ _ _ hs hS hA' hn hf ho
 | succ m ih =>
  intro i h n L' I' x4 x11 x12 x13 x14 x15 x16 x29 x42 x74 x77 x102 hm hs hS hA' hn hf ho
  have hil : i < os.length := by omega
  have hcc : (((i : Nat) : Int) < ((os.length : Nat) : Int)) := by omega
  have w1 : IntKind.i64.wrap (((i : Nat) : Int) + 1) = ((i + 1 : Nat) : Int) := by rw [w64 (by omega) (by omega)]; omega
  obtain ⟨mv, sv, e, hA, hw⟩ := ha.at_ i hil
  have hr0 := ha.rd h
  have hmem : os[i] ∈ os := List.getElem_mem hil
  generalize hoi : os[i] = o at *
  obtain ⟨g3, g4, g5⟩ := g2 o hmem
  have hld := wL (h := h) (n := n) ha hil e
  have hAA := hA
  obtain ⟨⟨ys, hm1⟩, ⟨zs, hs1⟩, hb⟩ := hAA
  have sl := hS.n
  have sm := hS.m
  rw [bZ]
  simp only [CY, bO, Try.f10, Option.getD_some, aB, fgr, execOp, opd, aC, put, nth, aA, bor, aJ, aK, intOp, List.getD_cons_zero, hcc, gL, gB]
  rw [aN (hr0.idx (j := i) wR F7 rfl hil)]
  simp only [aB, execOp, opd, aC, put, nth]
  rw [aN hld]
  simp only [aB, execOp, aC, put]
  rw [cG sY rfl]
  simp only [aB, execOp, opd, aC, put, nth, cel]
  refine dW (v := .agg (cU o mv sv)) sY rfl (lR hb) (IK hm1 hs1) hf fun H1 r1 p1 f1 => ?_
  replace r1 : Row H1 n (cU o mv sv) := r1
  have s1 := hs.old (n' := n + 1) (by omega) (fun j hj => p1 j (by omega))
  have ho1 : ∀ j, j < n0 → j ≠ s → H1 j = h0 j := fun j hj hj2 => by rw [p1 j (by omega), ho j hj hj2]
  simp only [aB, fgr, aC, aA]
  refine cB ⟨rfl, ?_⟩
  simp only [aF, aH, execOp, opd, aC, put, nth, gI]
  rw [bL (AJ r1 hb)]
  simp only [aF, aH, hkr, execOp, opd, bC, aC, put, nth, aI, aD, Nat.reduceAdd, gL]
  rw [bL (HS s1 (by omega))]
  simp only [aF, hkr, execOp, opd, bC, aC, put, nth, aI, aD, Nat.reduceAdd, gL]
  refine dI f1 (f59 o _ mv sv H1 _ hA (by omega) (by omega) (fun v hv => by have := g5 v hv; omega) f1) fun v2 h2 n2 r2 w2 hn2 f2 ⟨mv2, sv2, e2, a2, o2⟩ => ?_
  subst e2
  have s2 := s1.old hn2 o2
  have ho2 : ∀ j, j < n0 → j ≠ s → h2 j = h0 j := fun j hj hj2 => by rw [o2 j (by omega), ho1 j hj hj2]
  simp only [aF, hkr, execOp, opd, bC, aC, put, nth, aI, aD, Nat.reduceAdd, gL]
  refine dI f2 (f19 s2 (iV o _) mv2 sv2 (n + 1) n2 a2 (Nat.le_refl _) (fun j q1 q2 w => by have := hW j w; omega) (BH (LR hA)) (by omega) (by rw [nA]; omega) f2) fun v3 h3 n3 r3 w3 hn3 f3 ⟨e3, o3, s3⟩ => ?_
  subst e3
  have hS3 := hS.got (iV o (((I'.length : Nat) : Int) - 1)) (by rw [nA]; exact g3)
  have hA3 := hA'.got hS (iV o (((I'.length : Nat) : Int) - 1))
  have ho3 : ∀ j, j < n0 → j ≠ s → h3 j = h0 j := fun j hj hj2 => by rw [o3 j (by omega) hj2, ho2 j hj hj2]
  simp only [bS, aB, fgr, execOp, opd, ofValue, aC, put, nth, aA, bor, aJ, aK, intOp, bR, Nat.reduceAdd, gB]
  refine ⟨(by (try simp (disch := first | assumption | omega) only [cV, List.all_cons, List.all_nil, gB, gF]); repeat' (first | rfl | exact (Bool.or_eq_true _ _).mpr (.inr rfl) | refine (Bool.and_eq_true _ _).mpr ⟨?_, ?_⟩)), ?_⟩
  simp only [w1]
  exact ih (i + 1) h3 n3 _ _ _ _ _ _ _ _ _ _ _ _ _ _ (by omega) s3 hS3 hA3 (by omega) f3 ho3
end Go.Am.Ytlgebaofkolkoaa
set_option linter.unusedSimpArgs false
set_option linter.unusedVariables false
set_option linter.defProp false
set_option maxRecDepth 10000
namespace Go.Am.Ytlgebaofkolkoaa
open Go Go.Am Go.Proofs
theorem J9 (Q : eB) (ks : List Kf) (W : Nat → Prop) (s c n0 : Nat) (v x0 x1 : a9) (L L2 : List Ver) (I : List Inf) (h0 : Hp) (hv : I.length ≤ 900000) (lv : Lev I)
  (hT : ∀ (h : Hp) (n : Nat) (x4 x11 x12 x13 x14 x15 x16 x29 x39 x40 x41 x42 x74 x77 x102 : a9), St W h n s L I → St W h n c L2 I → n0 ≤ n → bK h n → Old h0 h n0 →
   dL env 10 none Q ks (.exit 2) (x0 :: x1 :: a9.junk :: a9.junk :: x4 :: .bool true :: .ptr s 0 :: v :: .int .i64 ((I.length : Nat) - 1) :: .ptr c 0 :: a9.junk :: x11 :: x12 :: x13 :: x14 :: x15 :: x16 :: a9.junk :: a9.junk :: a9.junk :: a9.junk :: a9.junk :: a9.junk :: a9.junk :: a9.junk :: a9.junk :: a9.junk :: a9.junk :: a9.junk :: x29 :: a9.junk :: a9.junk :: a9.junk :: a9.junk :: a9.junk :: a9.junk :: a9.junk :: a9.junk :: a9.junk :: x39 :: x40 :: x41 :: x42 :: a9.junk :: a9.junk :: a9.junk :: a9.junk :: a9.junk :: a9.junk :: a9.junk :: a9.junk :: a9.junk :: a9.junk :: a9.junk :: a9.junk :: a9.junk :: a9.junk :: a9.junk :: a9.junk :: a9.junk :: a9.junk :: a9.junk :: a9.junk :: a9.junk :: a9.junk :: a9.junk :: a9.junk :: a9.junk :: a9.junk :: a9.junk :: a9.junk :: a9.junk :: a9.junk :: a9.junk :: x74 :: a9.junk :: a9.junk :: x77 :: a9.junk :: a9.junk :: a9.junk :: a9.junk :: a9.junk :: a9.junk :: a9.junk :: a9.junk :: a9.junk :: a9.junk :: a9.junk :: a9.junk :: a9.junk :: a9.junk :: a9.junk :: a9.junk :: a9.junk :: a9.junk :: a9.junk :: a9.junk :: a9.junk :: a9.junk :: a9.junk :: a9.junk :: x102 :: a9.junk :: a9.junk :: a9.junk :: a9.junk :: a9.junk :: a9.junk :: a9.junk :: []) h n) :
  ∀ (m i : Nat) (h : Hp) (n : Nat) (x4 x11 x13 x14 x15 x16 x29 x39 x40 x41 x42 x74 x77 x102 : a9), i + m = I.length → St W h n s L I → St W h n c L2 I → n0 ≤ n → bK h n → Old h0 h n0 →
   Run env 10 none Q (.loop CX) ks (x0 :: x1 :: a9.junk :: a9.junk :: x4 :: .bool true :: .ptr s 0 :: v :: .int .i64 ((I.length : Nat) - 1) :: .ptr c 0 :: a9.junk :: x11 :: .int .i64 (i : Nat) :: x13 :: x14 :: x15 :: x16 :: a9.junk :: a9.junk :: a9.junk :: a9.junk :: a9.junk :: a9.junk :: a9.junk :: a9.junk :: a9.junk :: a9.junk :: a9.junk :: a9.junk :: x29 :: a9.junk :: a9.junk :: a9.junk :: a9.junk :: a9.junk :: a9.junk :: a9.junk :: a9.junk :: a9.junk :: x39 :: x40 :: x41 :: x42 :: a9.junk :: a9.junk :: a9.junk :: a9.junk :: a9.junk :: a9.junk :: a9.junk :: a9.junk :: a9.junk :: a9.junk :: a9.junk :: a9.junk :: a9.junk :: a9.junk :: a9.junk :: a9.junk :: a9.junk :: a9.junk :: a9.junk :: a9.junk :: a9.junk :: a9.junk :: a9.junk :: a9.junk :: a9.junk :: a9.junk :: a9.junk :: a9.junk :: a9.junk :: a9.junk :: a9.junk :: x74 :: a9.junk :: a9.junk :: x77 :: a9.junk :: a9.junk :: a9.junk :: a9.junk :: a9.junk :: a9.junk :: a9.junk :: a9.junk :: a9.junk :: a9.junk :: a9.junk :: a9.junk :: a9.junk :: a9.junk :: a9.junk :: a9.junk :: a9.junk :: a9.junk :: a9.junk :: a9.junk :: a9.junk :: a9.junk :: a9.junk :: a9.junk :: x102 :: a9.junk :: a9.junk :: a9.junk :: a9.junk :: a9.junk :: a9.junk :: a9.junk :: []) h n := by
 intro m
 induction m with
 | zero =>
  intro i h n x4 x11 x13 x14 x15 x16 x29 x39 x40 x41 x42 x74 x77 x102 hm hs hc hn hf ho
  have : i = I.length := by omega
  subst this
  rw [bZ]
  have hcc : ¬ (((I.length : Nat) : Int) ≤ ((I.length : Nat) : Int) - 1) := by omega
  simp only [CX, bO, Try.f10, Option.getD_some, aB, fgr, execOp, opd, aC, put, nth, aA, bor, aJ, aK, intOp, List.getD_cons_zero, List.getD_cons_succ, hcc, gL, gB]
  exact hT h n _ _ _ _ _ _ _ _ _ _ _ _ _ _ _ hs hc hn hf ho
 | succ m ih =>
  intro i h n x4 x11 x13 x14 x15 x16 x29 x39 x40 x41 x42 x74 x77 x102 hm hs hc hn hf ho
  have hil : i < I.length := by omega
  have hcc : (((i : Nat) : Int) ≤ ((I.length : Nat) : Int) - 1) := by omega
  have w1 : IntKind.i64.wrap (((i : Nat) : Int) + 1) = ((i + 1 : Nat) : Int) := by rw [w64 (by omega) (by omega)]; omega
  have ei := lv.find hil
  rw [bZ]
  simp only [CX, bO, Try.f10, Option.getD_some, aB, fgr, hkr, execOp, opd, bC, aC, put, nth, aA, aI, aD, bor, aJ, aK, intOp, List.getD_cons_zero, List.getD_cons_succ, hcc, gL, gB]
  refine bB hf (f25 hs _ (by omega) hf) fun v3 h3 n3 hn3 f3 ⟨e3, ob3, o3⟩ => ?_
  rw [ei] at e3 ob3
  subst e3
  simp only [Option.getD_some] at ob3
  simp only [aB, execOp, opd, aC, put, nth, extract, aV, AW, gL]
  rw [cG gJ rfl]
  simp only [aB, execOp, opd, aC, put, nth, cel]
  refine dW (v := .agg (bP I[i])) gJ rfl (bW ob3) (fA _) f3 fun H4 r4 p4 f4 => ?_
  replace r4 : Row H4 n3 (bP I[i]) := r4
  have O4 : Old h H4 n := fun j hj => by rw [p4 j (by omega), o3 j hj]
  have s4 := hs.old (n' := n3 + 1) (by omega) O4
  have c4 := hc.old (n' := n3 + 1) (by omega) O4
  simp only [aB, fgr, hkr, execOp, opd, bC, aC, put, nth, aA, aI, aD, gL]
  refine bB f4 (f25 c4 _ (by omega) f4) fun v5 h5 n5 hn5 f5 ⟨e5, ob5, o5⟩ => ?_
  rw [ei] at e5
  subst e5
  simp only [aB, execOp, opd, aC, put, nth, extract, aV, AW, Option.getD_some, gL]
  rw [cG gJ rfl]
  simp only [aB, execOp, opd, aC, put, nth, cel]
  refine dW (v := .agg (bP I[i])) gJ rfl (bW ob3) (fA _) f5 fun H6 r6 p6 f6 => ?_
  replace r6 : Row H6 n5 (bP I[i]) := r6
  have r46 : Row H6 n3 (bP I[i]) := (r4.aT (o5 n3 (by omega))).aT (p6 n3 (by omega))
  have O6 : Old h H6 n := fun j hj => by rw [p6 j (by omega), o5 j (by omega), O4 j hj]
  have s6 := hs.old (n' := n5 + 1) (by omega) O6
  have c6 := hc.old (n' := n5 + 1) (by omega) O6
  simp only [aB, fgr, execOp, opd, ofValue, aC, put, nth, aA, bor, aJ, aK, intOp, aW, branch, bne_self_eq_false, gL, gB]
  rw [aN (r46.whole gJ rfl (bW ob3))]
  simp only [aB, execOp, opd, aC, put, nth, gL]
  rw [aN (r6.whole gJ rfl (bW ob3))]
  simp only [aB, fgr, execOp, opd, ofValue, aC, put, nth, aA, bor, aJ, aK, intOp, bR, aW, branch, X0 I[i] I[i] ob3 ob3, BA, gL, gB]
  simp only [w1]
  exact ih (i + 1) H6 (n5 + 1) _ _ _ _ _ _ _ _ _ _ _ _ _ _ (by omega) s6 c6 (by omega) f6 (fun j hj => by rw [O6 j (by omega), ho j hj])
theorem X3 (v0 : a9) (hv0 : Arg Try.prog 101 [v0]) (v1 : a9) (hv1 : Arg Try.prog 101 [v1]) :
  Wp (aZ env (evalW env) 10 [v0, v1]) (fun _ => none) 0 fun v _ _ => v = .bool true := by
 obtain ⟨os, xs, ha⟩ := LQ hv0
 obtain ⟨os2, xs2, ha2⟩ := LQ hv1
 refine bI ff10 fi10 ?_
 simp only [UM, Try.f10, Option.getD_some, List.replicate, aB, fgr, hkr, execOp, opd, bC, ofValue, aC, put, aA, aI, aD, ended, aP, aQ, Nat.reduceAdd, Nat.reduceSub, gL, gI]
 refine bB bK.none (f27 _ _ bK.none) fun v2 h2 n2 hn2 f2 ⟨e2, o2⟩ => ?_
 subst e2
 simp only [aB, fgr, hkr, execOp, opd, bC, aC, put, nth, aA, aI, aD, gL]
 refine dZ (f57 v0 os xs h2 n2 ha) ?_
 by_cases g : lE os = true
 ·simp only [aB, fgr, execOp, opd, ofValue, aC, put, nth, aA, bor, aJ, aK, intOp, aW, branch, ↓reduceIte, Int.reduceLT, gt_iff_lt, g, gL, gB]
 rw [Bool.not_eq_true] at g
 simp only [aB, hkr, execOp, opd, bC, ofValue, aC, put, nth, aI, aD, bor, aJ, aK, intOp, ↓reduceIte, Int.reduceLT, gt_iff_lt, g, Bool.false_eq_true, gL, gB]
 refine dZ (f57 v1 os2 xs2 h2 n2 ha2) ?_
 by_cases g2 : lE os2 = true
 ·simp only [aB, fgr, execOp, opd, ofValue, aC, put, nth, aA, bor, aJ, aK, intOp, aW, branch, ↓reduceIte, Int.reduceLT, gt_iff_lt, g2, gL, gB]
 rw [Bool.not_eq_true] at g2
 simp only [aB, fgr, hkr, execOp, opd, bC, ofValue, aC, put, nth, aA, aI, aD, bor, aJ, aK, intOp, unOp, aW, branch, ↓reduceIte, Int.reduceLT, gt_iff_lt, g2, Bool.false_eq_true, gL, gB]
 have gl := (j7 g).1
 have gl2 := (j7 g2).1
 refine bB f2 (f58 v0 os xs h2 n2 ha g f2) fun v3 h3 n3 hn3 f3 ⟨s, L, I, e3, hx, s3, hS, o3⟩ => ?_
 subst e3
 have sn3 := s3.sn
 have hl := hS.n
 have hi := hS.m
 simp only [aB, fgr, hkr, execOp, opd, bC, aC, put, nth, aA, aI, aD, gL]
 refine bB f3 (f24 s3 (by omega) f3) fun v4 h4 n4 hn4 f4 ⟨l4, o4⟩ => ?_
 have s4 := s3.old hn4 o4
 simp only [aB, hkr, execOp, opd, bC, aC, put, nth, aI, aD, gL]
 rw [aN (HS s4 (by omega))]
 simp only [aB, fgr, hkr, execOp, opd, bC, aC, put, nth, aA, aI, aD, gL]
 refine bB f4 (f28 s4 (by omega) (by omega) f4) fun v5 h5 n5 hn5 f5 ⟨c, e5, hc5, c5, s5, o5⟩ => ?_
 subst e5
 have cn5 := c5.sn
 have l5 := l4.old (by omega) o5
 simp only [aB, fgr, execOp, opd, bC, ofValue, aC, put, nth, aA, aI, builtin, dB, (ha2.rd h5).cI wR]
 refine JA _ _ v0 v1 os2 xs2 (fun j => j = s ∨ j = c) s c n5 v4 L I h5 ha2 g2 (by omega) (fun j w => by omega) hS _ ?_ os2.length 0 h5 n5 L I _ _ _ _ _ _ _ _ _ _ _ _ (by omega) s5 (hS.up (by omega)) (sB.refl hS) (Nat.le_refl _) f5 (fun j hj _ => rfl)
 intro h6 n6 L' I' x4 x11 x12 x13 x14 x15 x16 x29 x42 x74 x77 x102 s6 hS6 hA6 hn6 f6 o6
 have hl6 := hS6.n
 have hi6 := hS6.m
 have c6 := c5.next hn6 fun j hj w => by
  rcases w with w | w
  ·exact o6 j hj (by omega)
  ·exact o6 j hj (fun q => w (.inl q))
 have l6 := l5.aT (h' := h6) fun j q1 q2 => o6 j (by omega) (by omega)
 have n6 := hA6.n
 have cA : ¬ ((I'.length : Nat) : Int) - 1 < ((I.length : Nat) : Int) - 1 := by omega
 simp only [aB, hkr, execOp, opd, bC, aC, put, nth, aI, aD, gL]
 rw [aN (HS s6 (by omega))]
 simp only [aB, hkr, execOp, opd, bC, aC, put, nth, aI, aD, bor, aJ, aK, intOp, cA, gL, gB]
 refine bB f6 (f22 s6 _ (by omega) (by omega) f6) fun v7 h7 n7 hn7 f7 ⟨o7, hh⟩ => ?_
 rcases hh with ⟨q, _⟩ | ⟨q1, q2, e7, s7⟩
 ·omega
 subst e7
 rw [hA6.c, show (((I.length : Nat) : Int) - 1 + 1).toNat = I.length by omega, hA6.p] at s7
 have c7 := c6.next hn7 fun j hj w => by
  rcases w with w | w
  ·exact o7 j hj (by omega)
  ·exact o7 j hj (fun q => w (.inl q))
 have l7 := l6.aT (h' := h7) fun j q1 q2 => o7 j (by omega) (by omega)
 simp only [aB, hkr, execOp, opd, bC, ofValue, aC, put, nth, aI, aD, bor, aJ, aK, intOp, aW, branch, bne_self_eq_false, gL, gB]
 rw [aN (HS s7 (by omega))]
 simp only [aB, hkr, execOp, opd, bC, ofValue, aC, put, nth, aI, aD, bor, aJ, aK, intOp, aW, branch, bne_self_eq_false, gL, gB]
 refine bB f7 (f24 s7 (by omega) f7) fun v8 h8 n8 hn8 f8 ⟨l8, o8⟩ => ?_
 have s8 := s7.old hn8 o8
 have c8 := c7.old hn8 o8
 have l8b := l7.old (by omega) o8
 simp only [aB, hkr, execOp, opd, bC, aC, put, nth, aI, aD, gL]
 refine bB f8 (AR l8 l8b (Nat.le_refl _) (by omega) (by omega) f8) fun v9 h9 n9 hn9 f9 ⟨e9, o9⟩ => ?_
 rw [vO] at e9
 subst e9
 have s9 := s8.old hn9 o9
 have c9 := c8.old hn9 o9
 have l9 := l8b.old (by omega) o9
 simp only [aB, fgr, execOp, opd, ofValue, aC, put, nth, aA, unOp, aW, branch, gL, gB]
 refine J9 _ _ _ s c n9 v4 _ _ L L I h9 (by omega) hS.l ?_ I.length 0 h9 n9 _ _ _ _ _ _ _ _ _ _ _ _ _ _ (by omega) s9 c9 (Nat.le_refl _) f9 (Old.refl _ _)
 intro h10 n10 x4 x11 x12 x13 x14 x15 x16 x29 x39 x40 x41 x42 x74 x77 x102 s10 c10 hn10 f10 o10
 have l10 := l9.old (by omega) o10
 simp only [aB, hkr, execOp, opd, bC, aC, put, nth, aI, aD, gL]
 refine bB f10 (f24 c10 (by omega) f10) fun v11 h11 n11 hn11 f11 ⟨l11, o11⟩ => ?_
 have l11b := l10.old (by omega) o11
 simp only [aB, hkr, execOp, opd, bC, aC, put, nth, aI, aD, gL]
 refine bB f11 (AR l11 l11b (Nat.le_refl _) (by omega) (by omega) f11) fun v12 h12 n12 hn12 f12 ⟨e12, o12⟩ => ?_
 rw [vO] at e12
 subst e12
 simp only [aB, fgr, execOp, opd, ofValue, aC, put, nth, aA, aW, branch, gB]
end Go.Am.Ytlgebaofkolkoaa
