/- What the statement reaches, gone through; and the abstract machine that goes through it. -/
import Derived.Test.YtlgebaofkolkoaaGE
set_option linter.unusedSimpArgs false
set_option linter.unusedVariables false
set_option linter.defProp false
set_option maxRecDepth 10000
namespace Go.Am.Ytlgebaofkolkoaa
open Go Go.Am Go.Proofs
theorem f86 (v : a9) (cnt : Nat) (xs : List a9) (h : Hp) (n : Nat) (hv : Lp h v cnt xs) (h1 : xs.all bB = true) (hc : cnt ≤ 1000000) (hf : aY h n) :
    Wp (bH env (aV env) 86 [v]) h n fun v' h' n' => Lp h' v' cnt xs ∧ (∀ j, aP v' = some j → n ≤ j ∧ j < n') ∧ Old h h' n := by
  refine aU aK7 ay9 ?_
  obtain ⟨en, en2⟩ := hv.EN
  simp only [YG, Try.f86, Option.getD_some, List.replicate, fgr, Nat.reduceSub, en, gE]
  cases hnil : lX v with
  | true =>
    obtain ⟨e1, e2, e3⟩ := en2 hnil
    subst e1; subst e2; subst e3
    simp only [fgr, gE]
    exact ⟨.nil, (fun j q => by cases q), Old.refl _ _⟩
  | false =>
    simp only [tyr, buildSlice, eY, fill, Nat.ble, gE]
    refine gT iT hf (f := fun id => a9.sl id 0 0 (some 0) 1) fun H r o f => ?_
    simp only [builtin, gE]
    have hv' := hv.aM (h' := H) fun j q => o j (by have := hv.dL hf q; omega)
    have hlen := hv.rds.length
    refine OB (LN r hv'.rds h1 hc f) fun v2 h2 n2 hn2 hh => ?_
    simp only [fgr, gE]
    rcases hh with ⟨e1, e2, e3, e4⟩ | ⟨e1, e2, e3, e4⟩
    · subst e1; subst e2; subst e3; subst e4
      have : xs = [] := List.eq_nil_of_length_eq_zero (by omega)
      subst this
      exact ⟨.zero n 0 _ r (Nat.zero_le _), (fun j q => by injection q with q; omega), fun j hj => o j (by omega)⟩
    · subst e2; subst e3; subst e4
      have hxl : xs.length = cnt := by omega
      exact ⟨.sl (n + 1) cnt xs xs (aO _ _ _) (by omega) (by omega) (List.take_of_length_le (by omega)), (fun j q => by injection q with q; omega), fun j hj => by rw [aH _ _ (by omega), o j (by omega)]⟩
theorem f41 (x : Nat) (L : List Ver) (D M : Nat → Prop) (h : Hp) (n : Nat) (hs : Ix h n D M x L) (hc : L.length ≤ 1000000) (hf : aY h n) :
    Wp (bH env (aV env) 41 [.ptr x 0]) h n fun v' h' n' => ∃ y M', v' = .ptr y 0 ∧ Ix h' n' D M' y L ∧ (∀ j, M' j → n ≤ j) ∧ Old h h' n := by
  obtain ⟨⟨S, s0, rS, perm⟩, rL, ok⟩ := hs
  have s00 := s0
  obtain ⟨vl, vs, xl, xs, iv, mx, ml, ms, mn⟩ := s00
  refine aU aN6 aB8 ?_
  simp only [Z9, Try.f41, Option.getD_some, List.replicate, fgr, hkr, Nat.reduceSub, gE]
  refine dA (f73 x _ true h n iv.row rfl) ?_
  simp only [fgr, hkr, gE]
  refine aQ hf (f40 h n hf) fun v1 h1 n1 hn1 f1 ⟨y, e1, hy, i1, o1⟩ => ?_
  subst e1
  obtain ⟨⟨S1, ⟨vl1, vs1, xl1, xs1, jv, _⟩, _⟩, _⟩ := i1
  have yn := jv.xn
  obtain ⟨e0, jr⟩ := jv.row
  have row1 := iv.row.aM (o1 x iv.xn)
  have lp1 := iv.l.aM (h' := h1) fun j q => o1 j (mn j (ml j q)).1
  have ls1 := iv.s.aM (h' := h1) fun j q => o1 j (mn j (ms j q)).1
  have xn := iv.xn
  have xy : x ≠ y := by omega
  have hSl : S.length = L.length := perm.length_eq.symm
  simp only [fgr, gE]
  refine bW ⟨rfl, ?_⟩
  simp only [tyr, aR, Nat.reduceAdd, gE]
  rw [aW (row1.one (off := 1) rfl pI rfl)]
  simp only [hkr, Nat.reduceAdd, gE]
  have fo1 : ∀ S : Nat → Bool, aY (only S h1) n1 := fun S => f1.only
  refine vI (fun j => decide (aP vl = some j)) f1 (f86 vl L.length xl (only (fun j => decide (aP vl = some j)) h1) n1 (lp1.aM fun j q => fS (decide_eq_true q)) iv.lp.cells hc (fo1 _)) fun v2 h2 n2 r2 w2 hr2 hn2 f2 ⟨l2, i2, o2⟩ hin hout hr hw => ?_
  have vln : ∀ j, aP vl = some j → j < n ∧ j ≠ x ∧ j ≠ y := fun j q => by
    have h1 := (mn j (ml j q)).1
    exact ⟨h1, (iv.vlx j q).1, by omega⟩
  have vsn : ∀ j, aP vs = some j → j < n ∧ j ≠ x ∧ j ≠ y := fun j q => by
    have h1 := (mn j (ms j q)).1
    exact ⟨h1, (iv.vsx j q).1, by omega⟩
  have old2 : Old h1 h2 n1 := fun j hj => by
    by_cases q : aP vl = some j
    · rw [hin j (.inl (decide_eq_true q)), o2 j hj, fS (decide_eq_true q)]
    · exact hout j hj (decide_eq_false q)
  have l2' : Lp h2 v2 L.length xl := l2.aM fun j q => hin j (.inr (i2 j q).1)
  simp only [tyr, aR, Nat.reduceAdd, gE]
  rw [aW ((row1.aM (old2 x (by have := iv.xn; omega))).one (off := 3) rfl pI rfl)]
  simp only [hkr, Nat.reduceAdd, gE]
  have ls2 := ls1.aM (h' := h2) fun j q => old2 j (by have := (vsn j q).1; omega)
  have fo2 : ∀ S : Nat → Bool, aY (only S h2) n2 := fun S => f2.only
  refine vI (fun j => decide (aP vs = some j)) f2 (f86 vs S.length xs (only (fun j => decide (aP vs = some j)) h2) n2 (ls2.aM fun j q => fS (decide_eq_true q)) iv.sp.cells (by omega) (fo2 _)) fun v3 h3 n3 r3 w3 hr3 hn3 f3 ⟨l3, i3, o3⟩ hin3 hout3 hr3' hw3 => ?_
  have old3 : Old h2 h3 n2 := fun j hj => by
    by_cases q : aP vs = some j
    · rw [hin3 j (.inl (decide_eq_true q)), o3 j hj, fS (decide_eq_true q)]
    · exact hout3 j hj (decide_eq_false q)
  have l3' : Lp h3 v3 S.length xs := l3.aM fun j q => hin3 j (.inr (i3 j q).1)
  have l2'' : Lp h3 v2 L.length xl := l2'.aM fun j q => old3 j (i2 j q).2
  have jr3 : h3 y = some (.row (.l [.bool true, vl1, fo false, vs1, fo true]) e0) := by rw [old3 y (by omega), old2 y (by omega)]; exact jr
  simp only [tyr, aR, Nat.reduceAdd, gE]
  have k2 := l2.rds.kind
  have k3 := l3.rds.kind
  refine jN (Row.write (v := v2) jr3 pI (by rw [k2.1]; rfl) (by show 1 + 1 ≤ 5; omega) (by rw [k2.1]; simp [k2.2.1])) ?_
  rw [k2.1, show bV [.bool true, vl1, fo false, vs1, fo true] 1 [v2] = [.bool true, v2, fo false, vs1, fo true] from rfl]
  simp only [tyr, aR, Nat.reduceAdd, gE]
  refine jN (Row.write (v := v3) (aO _ _ _) pI (by rw [k3.1]; rfl) (by show 3 + 1 ≤ 5; omega) (by rw [k3.1]; simp [k3.2.1])) ?_
  rw [k3.1, show bV [.bool true, v2, fo false, vs1, fo true] 3 [v3] = [.bool true, v2, fo false, v3, fo true] from rfl]
  simp only [fgr, Nat.reduceAdd, gE]
  have nx2 : x ∉ w2 := fun q => (vln x (of_decide_eq_true (hw x q))).2.1 rfl
  have ny2 : y ∉ w2 := fun q => (vln y (of_decide_eq_true (hw y q))).2.2 rfl
  have nry2 : y ∉ r2 := fun q => (vln y (of_decide_eq_true (hr y q))).2.2 rfl
  have nx3 : x ∉ w3 := fun q => (vsn x (of_decide_eq_true (hw3 x q))).2.1 rfl
  have ny3 : y ∉ w3 := fun q => (vsn y (of_decide_eq_true (hw3 y q))).2.2 rfl
  have nry3 : y ∉ r3 := fun q => (vsn y (of_decide_eq_true (hr3' y q))).2.2 rfl
  refine ⟨(by (try simp (disch := first | assumption | omega) only [cJ, gF]); repeat' (first | rfl | exact (Bool.or_eq_true _ _).mpr (.inr rfl) | refine (Bool.and_eq_true _ _).mpr ⟨?_, ?_⟩)), ?_⟩
  obtain ⟨H4, hH4⟩ : ∃ H4, H4 = upd (upd h3 y (some (Blk.row (bG.l [a9.bool true, v2, fo false, vs1, fo true]) e0))) y (some (Blk.row (bG.l [a9.bool true, v2, fo false, v3, fo true]) e0)) := ⟨_, rfl⟩
  have o4 : ∀ j, j ≠ y → H4 j = h3 j := fun j hj => by rw [hH4, aH _ _ hj, aH _ _ hj]
  have r4 : Row H4 y [.bool true, v2, fo false, v3, fo true] := by rw [hH4]; exact Row.new _ _ _ _
  rw [← hH4]
  clear hH4
  have old4 : Old h H4 n := fun j hj => by rw [o4 j (by omega), old3 j (by omega), old2 j (by omega), o1 j hj]
  have hdn := iv.dn
  refine ⟨y, fun j => j = y ∨ aP v2 = some j ∨ aP v3 = some j, rfl, ⟨⟨S, ⟨v2, v3, xl, xs, ⟨r4, l2''.aM fun j q => o4 j (by have := i2 j q; omega), iv.lp.mono (fun j q => q) (fun j q => old4 j (hdn j q)), l3'.aM fun j q => o4 j (by have := i3 j q; omega), iv.sp.mono (fun j q => q) (fun j q => old4 j (hdn j q)), by omega, fun j q => by have := hdn j q; omega, fun q => by have := hdn y q; omega, fun j q => ⟨by have := i2 j q; omega, fun w => by have := hdn j w; have := i2 j q; omega⟩, fun j q => ⟨by have := i3 j q; omega, fun w => by have := hdn j w; have := i3 j q; omega, fun w => by have := i2 j w; have := i3 j q; omega⟩⟩, .inl rfl, fun j q => .inr (.inl q), fun j q => .inr (.inr q), fun j q => ?_⟩, rS, perm⟩, rL, ok⟩, fun j q => ?_, old4⟩
  · rcases q with q | q | q
    · subst q; exact ⟨by omega, fun w => by have := hdn _ w; omega⟩
    · have := i2 j q; exact ⟨by omega, fun w => by have := hdn j w; omega⟩
    · have := i3 j q; exact ⟨by omega, fun w => by have := hdn j w; omega⟩
  · rcases q with q | q | q
    · omega
    · have := i2 j q; omega
    · have := i3 j q; omega
def kpB (ls : List (List UInt8)) (j : Nat) : Bool := j == 0 || (ls.getD j [] != ls.getD (j - 1) [])
def kp (ls : List (List UInt8)) (m : Nat) : List Nat := (List.range m).filter (kpB ls)
structure Bs (h : Hp) (D : Nat → Prop) (xs : List a9) (ls : List (List UInt8)) : Prop where
  len : xs.length = ls.length
  at_ : ∀ (j : Nat) (hj : j < ls.length), ∃ x, xs[j]? = some x ∧ Bytes h x ls[j] ∧ ∀ i, aP x = some i → D i
theorem Bs.nil (h : Hp) (D : Nat → Prop) : Bs h D [] [] := ⟨rfl, fun j hj => by simp at hj⟩
theorem Bs.mono {h h' : Hp} {D D' : Nat → Prop} {xs : List a9} {ls : List (List UInt8)} (p : Bs h D xs ls) (hd : ∀ j, D j → D' j) (hk : ∀ j, D j → h' j = h j) : Bs h' D' xs ls :=
  ⟨p.len, fun j hj => by
    obtain ⟨x, e, b, d⟩ := p.at_ j hj
    exact ⟨x, e, b.aM fun i q => hk i (d i q), fun i q => hd i (d i q)⟩⟩
def BL (h : Hp) (n0 n : Nat) (v : a9) (ls : List (List UInt8)) : Prop := ∃ xs, Lst h 29 1 v ls.length xs ∧ Bs h (fun j => n0 ≤ j ∧ j < n ∧ aP v ≠ some j) xs ls ∧ ∀ j, aP v = some j → n0 ≤ j ∧ j < n
theorem BL.aM {h h' : Hp} {a b : Nat} {v : a9} {ls : List (List UInt8)} (l : BL h a b v ls) (hk : ∀ j, a ≤ j → j < b → h' j = h j) : BL h' a b v ls := by
  obtain ⟨cells, c1, c2, c3⟩ := l
  exact ⟨cells, c1.aM fun j q => hk j (c3 j q).1 (c3 j q).2, c2.mono (fun j q => q) (fun j q => hk j q.1 q.2.1), c3⟩
theorem BL.old {h h' : Hp} {a b n : Nat} {v : a9} {ls : List (List UInt8)} (l : BL h a b v ls) (hn : b ≤ n) (hk : Old h h' n) : BL h' a b v ls := l.aM fun j _ q => hk j (by omega)
theorem BL.len {h : Hp} {a b : Nat} {v : a9} {ls : List (List UInt8)} (l : BL h a b v ls) {u : TypeId} {ts : List TypeId} (hu : und env u = M.pure (.slice 29)) : cA env (u :: ts) v = M.pure (.int .i64 (ls.length : Nat)) := by
  obtain ⟨cells, c1, c2, c3⟩ := l
  exact c1.rds.cA hu
theorem u81 : und env 81 = M.pure (.slice 29) := rfl
theorem z29 : sizeOf env 29 = M.pure 1 := rfl
theorem BL.idx {h : Hp} {a b : Nat} {v : a9} {ls : List (List UInt8)} (l : BL h a b v ls) {i : Nat} (hi : i < ls.length) {h' : Hp} {n' : Nat} : Rd (indexAddr env 81 v (.int .i64 ((i : Nat) : Int))) h' n' [] (cS (i * 1) v) := by
  obtain ⟨cells, c1, c2, c3⟩ := l
  exact c1.rds.idx u81 z29 rfl hi
theorem BL.at_ {h : Hp} {a b : Nat} {v : a9} {ls : List (List UInt8)} (l : BL h a b v ls) {i : Nat} (hi : i < ls.length) : ∃ x, (∀ n, Rd (load env 29 (cS (i * 1) v)) h n (rid v) x) ∧ Bytes h x ls[i] ∧ ∀ j, aP x = some j → a ≤ j ∧ j < b := by
  obtain ⟨cells, c1, c2, c3⟩ := l
  obtain ⟨x, e, b, d⟩ := c2.at_ i hi
  exact ⟨x, fun n => c1.rds.load uY rfl (by rw [Nat.mul_one]; exact e), b, fun j q => ⟨(d j q).1, (d j q).2.1⟩⟩
def jJ (L : List Ver) (z : Int) (ds : List (List UInt8)) : Nat := (ds.map fun d => (ofV L d z).length).sum
theorem UP {L : List Ver} {z : Int} {v : Ver} (hv : v ∈ L) (ht : dW v z = true) : (atV L v.aI v.pn z).isSome = true := by
  unfold atV
  cases e : (L.filter fun w => same v.aI v.pn w && dW w z).getLast? with
  | some a => rfl
  | none =>
    rw [List.getLast?_eq_none_iff] at e
    have : v ∈ L.filter fun w => same v.aI v.pn w && dW w z := List.mem_filter.2 ⟨hv, by simp [ht, same]⟩
    rw [e] at this
    cases this
noncomputable def L49 (tm : List a9) : kS := { state := .ready, pending := none, fn := 49, tmps := tm, params := [10], assign := NM, body := NH }
def nH (L : List Ver) (p k : Nat) : List Ver := (L.take k).drop p
theorem O2 (L : List Ver) (p : Nat) : nH L p p = [] := by
  unfold nH
  exact List.drop_eq_nil_of_le (by rw [List.length_take]; omega)
theorem O0 {L : List Ver} {p k : Nat} (hp : p ≤ k) (hk : k < L.length) : nH L p (k + 1) = nH L p k ++ [L[k]] := by
  unfold nH
  rw [hU hk, List.drop_append_of_le_length (by rw [List.length_take]; omega)]
theorem T6 (L : List Ver) (p k : Nat) : (nH L p k).length ≤ L.length := by
  unfold nH
  rw [List.length_drop, List.length_take]; omega
structure P49 (H7 : Hp) (n : Nat) (L : List Ver) (aI : List UInt8) (pn : Int) (lo : kS) (nS k : Nat) (h1 : Hp) (n1 : Nat) : Prop where
  fr : aY h1 n1
  n7 : n + 1 + 1 + 1 + 1 + 1 ≤ nS
  ns : nS ≤ n1
  kp : ∀ j, j < n + 1 + 1 + 1 + 1 + 1 → j ≠ n + 1 → j ≠ n + 1 + 1 + 1 + 1 → h1 j = H7 j
  lp : h1 (n + 1 + 1 + 1 + 1) = some (.loop lo)
  cl : ∃ acc cells, h1 (n + 1) = some (.row (.l [acc]) 43) ∧ Lst h1 31 70 acc (nH L (pos false L (key aI pn 0)) k).length cells ∧ Vs h1 (fun j => nS ≤ j ∧ j < n1 ∧ aP acc ≠ some j) cells (nH L (pos false L (key aI pn 0)) k) ∧ ∀ j, aP acc = some j → nS ≤ j
  sm : ∀ i (hi : i < L.length), pos false L (key aI pn 0) ≤ i → i < k → same aI pn L[i] = true
set_option maxHeartbeats 4000000 in
theorem f49 (x : Nat) (aI : List UInt8) (pn : Int) (hl : aI.length = 32) (L : List Ver) (D M : Nat → Prop) (h : Hp) (n : Nat) (hs : Ix h n D M x L) (hc : L.length ≤ 1000000) (hf : aY h n) :
    Wp (bH env (aV env) 49 [.ptr x 0, .agg (aS aI pn)]) h n fun v' h' n' => Old h h' n ∧ ∃ k, pos false L (key aI pn 0) ≤ k ∧ (∀ i (hi : i < L.length), pos false L (key aI pn 0) ≤ i → i < k → same aI pn L[i] = true) ∧ (∀ hk : k < L.length, same aI pn L[k] = false) ∧ VL h' n n' v' (nH L (pos false L (key aI pn 0)) k) := by
  obtain ⟨⟨S, s0, rS, perm⟩, rL, ok⟩ := hs
  obtain ⟨vl, vs, xl, xs, iv, mx, ml, ms, mn⟩ := s0
  refine aU aN3 aB5 ?_
  simp only [Z6, Try.f49, Option.getD_some, List.replicate, Nat.reduceAdd, Nat.reduceSub, gE]
  refine cG (v := .agg (aS aI pn)) gG rfl hf fun H1 r1 o1 f1 => ?_
  replace r1 : Row H1 n (aS aI pn) := r1
  simp only [fgr, gE]
  rw [bU pJ rfl]
  obtain ⟨H2, hH2⟩ : ∃ H2, H2 = upd H1 (n + 1) (some (Blk.row (bG.l [a9.aN]) 43)) := ⟨_, rfl⟩
  show Ops env 49 none _ _ _ _ _ (upd H1 (n + 1) (some (Blk.row (bG.l [a9.aN]) 43))) _
  rw [← hH2]
  have f2 : aY H2 (n + 1 + 1) := by rw [hH2]; exact f1.new
  have o2 : ∀ j, j ≠ n + 1 → H2 j = H1 j := fun j hj => by rw [hH2, aH _ _ hj]
  have r2 : H2 (n + 1) = some (Blk.row (bG.l [a9.aN]) 43) := by rw [hH2, aO]
  clear hH2
  have r1' : Row H2 n (aS aI pn) := r1.aM (o2 n (by omega))
  simp only [fgr, gE]
  rw [aE (show Rd (load env 28 (.ptr n 0)) _ _ [n] (.agg (aS aI pn)) from Row.eF r1' gG rfl (bM hl))]
  simp only [hkr, gE]
  refine dA (f81 x aI pn _ _) ?_
  simp only [bI, fgr, bP, put, aF]
  refine lD (g := 106) (first := []) (cap := [.ptr (n + 1 + 1) 0, .ptr (n + 1 + 1 + 1) 0]) rfl rfl ?_
  let TM : List a9 := (.ptr x 0 :: .agg (aS aI pn) :: a9.aA :: .ptr n 0 :: .aN :: .ptr (n + 1) 0 :: undef :: a9.aA :: a9.aA :: .fn (.func 106) [] [.ptr (n + 1 + 1) 0, .ptr (n + 1 + 1 + 1) 0] :: undef :: a9.aA :: a9.aA :: a9.aA :: a9.aA :: a9.aA :: a9.aA :: a9.aA :: a9.aA :: [])
  obtain ⟨H6, hH6⟩ : ∃ H6, H6 = upd (upd (upd H2 (n + 1 + 1) (some (Blk.row (bG.l [a9.ptr x 0]) 56))) (n + 1 + 1 + 1) (some (Blk.row (bG.l (aS aI pn)) 28))) (n + 1 + 1 + 1 + 1) (some (Blk.loop (L49 TM))) := ⟨_, rfl⟩
  show Wp (fX env (aV env) 106 [a9.fn (Fn.yield (n + 1 + 1 + 1 + 1)) [] [], a9.ptr (n + 1 + 1) 0, a9.ptr (n + 1 + 1 + 1) 0]) (upd (upd (upd H2 (n + 1 + 1) (some (Blk.row (bG.l [a9.ptr x 0]) 56))) (n + 1 + 1 + 1) (some (Blk.row (bG.l (aS aI pn)) 28))) (n + 1 + 1 + 1 + 1) (some (Blk.loop (L49 TM)))) _ _
  rw [V4, ← hH6]
  have f6 : aY H6 (n + 1 + 1 + 1 + 1 + 1) := by rw [hH6]; exact f2.new.new.new
  have old6 : Old h H6 n := fun j hj => by rw [hH6, aH _ _ (by omega), aH _ _ (by omega), aH _ _ (by omega), o2 j (by omega), o1 j (by omega)]
  have g3 : H6 (n + 1) = some (Blk.row (bG.l [a9.aN]) 43) := by rw [hH6, aH _ _ (by omega), aH _ _ (by omega), aH _ _ (by omega)]; exact r2
  have g4 : Row H6 (n + 1 + 1) [.ptr x 0] := by rw [hH6]; exact ((Row.new _ _ _ _).upd (by omega)).upd (by omega)
  have g5 : Row H6 (n + 1 + 1 + 1) (aS aI pn) := by rw [hH6]; exact (Row.new _ _ _ _).upd (by omega)
  have g6 : H6 (n + 1 + 1 + 1 + 1) = some (.loop (L49 TM)) := by rw [hH6, aO]
  clear hH6
  have iv6 : IxV H6 (n + 1 + 1 + 1 + 1 + 1) D x vl vs xl xs L S :=
    ⟨iv.row.aM (old6 x iv.xn), iv.l.aM (fun j q => old6 j (mn j (ml j q)).1), iv.lp.mono (fun j q => q) (fun j q => old6 j (iv.dn j q)), iv.s.aM (fun j q => old6 j (mn j (ms j q)).1), iv.sp.mono (fun j q => q) (fun j q => old6 j (iv.dn j q)), by have := iv.xn; omega, fun j q => by have := iv.dn j q; omega, iv.xd, iv.vlx, iv.vsx⟩
  have lt : ∀ (j : Nat), j < n → ∀ (h1 : Hp), (∀ j, j < n + 1 + 1 + 1 + 1 + 1 → j ≠ n + 1 → j ≠ n + 1 + 1 + 1 + 1 → h1 j = H6 j) → h1 j = H6 j := fun j hj h1 hk => hk j (by omega) (by omega) (by omega)
  refine cP ((f106 (.fn (.yield (n + 1 + 1 + 1 + 1)) [] []) (n + 1 + 1) (n + 1 + 1 + 1) x aI pn hl L S D (P49 H6 n L aI pn (L49 TM)) (fun _ _ _ => False) vl vs xl xs H6 (n + 1 + 1 + 1 + 1 + 1) iv6 (fun j q => by have := (mn j (ml j q)).1; omega) rL hc ⟨rfl, rfl, rfl⟩ g4 g5 (by omega) (by omega) f6 ?_ ?_ ?_ (fun _ _ _ _ _ _ _ q => q) ?_).yB f6) ?_
  · intro nS k h1 n1 p
    exact ⟨iv6.l.rds.aM (fun j q => lt j (mn j (ml j q)).1 h1 p.kp), iv6.lp.mono (fun j q => q) (fun j q => lt j (iv.dn j q) h1 p.kp), p.fr⟩
  · intro h' nS hn' hf' ho'
    exact ⟨hf', by omega, Nat.le_refl _, fun j hj _ _ => ho' j hj, (ho' _ (by omega)).trans g6, ⟨.aN, [], (ho' _ (by omega)).trans g3, by rw [O2]; exact .nil, by rw [O2]; exact Vs.nil _ _, fun j q => by cases q⟩, fun i hi h1 h2 => by omega⟩
  · intro nS k h1 n1 i b hi hns p
    obtain ⟨acc, cells, c1, c2, c3, c4⟩ := p.cl
    have hn7 := p.n7
    exact ⟨p.fr.upd (by have := p.ns; omega), p.n7, p.ns, fun j hj h1' h2' => by rw [aH _ _ (by omega)]; exact p.kp j hj h1' h2', by rw [aH _ _ (by omega)]; exact p.lp, ⟨acc, cells, by rw [aH _ _ (by omega)]; exact c1, c2.aM fun j q => aH _ _ (by have := c4 j q; omega), c3.mono (fun j q => q) (fun j q => aH _ _ (by omega)), c4⟩, p.sm⟩
  · intro nS k hk id sv h1 n1 hnS hpk p a d1 d2 hsm
    have hidn := iv.dn id d1
    refine nA p.lp rfl rfl ?_
    simp only [NM, List.getD_cons_zero, lT, List.zip_cons_cons, List.zip_nil_left, L49, TM, cE, Try.f49, Option.getD_some, fgr, gE]
    refine ⟨_, p.lp, rfl, ?_⟩
    obtain ⟨h2, hh2⟩ : ∃ h2, h2 = upd h1 (n + 1 + 1 + 1 + 1) (some (Blk.loop { L49 TM with state := .busy })) := ⟨_, rfl⟩
    have ho2 : ∀ j, j ≠ n + 1 + 1 + 1 + 1 → h2 j = h1 j := fun j hj => by rw [hh2, aH _ _ hj]
    have hlo2 : h2 (n + 1 + 1 + 1 + 1) = some (.loop { L49 TM with state := .busy }) := by rw [hh2, aO]
    have hns := p.ns
    have h77 := p.n7
    have hf2 : aY h2 n1 := by rw [hh2]; exact p.fr.upd (by omega)
    show Run env 49 _ _ _ _ _ (upd h1 (n + 1 + 1 + 1 + 1) (some (Blk.loop { L49 TM with state := .busy }))) n1
    rw [← hh2]
    clear hh2
    have a2 : At h2 id sv L[k] := a.aM (ho2 id (by omega)) (fun j q => ho2 j (by have := iv.dn j (d2 j q); omega))
    obtain ⟨acc, cells, q1, q2, q3, q4⟩ := p.cl
    have sm' : ∀ i (hi : i < L.length), pos false L (key aI pn 0) ≤ i → i < k + 1 → same aI pn L[i] = true := fun i hi h1' h2' => by
      by_cases q : i = k
      · subst q; exact hsm
      · exact p.sm i hi h1' (by omega)
    have cell : Row h2 (n + 1) [acc] := ⟨_, (ho2 _ (by omega)).trans q1⟩
    have q2' := q2.aM (h' := h2) fun j q => ho2 j (by have := q4 j q; omega)
    simp only [NH, List.getD_cons_zero, cE, Try.f49, Option.getD_some, bI, fgr, List.nil_append, List.append_nil]
    refine bW ⟨rfl, ?_⟩
    simp only [gE]
    rw [aW (cell.one (off := 0) rfl pJ rfl)]
    simp only [Nat.reduceAdd, gE]
    rw [aW (dO a2.row a2.ok)]
    simp only [hkr, Nat.reduceAdd, gE]
    have fo2 : aY (only (fun j => decide (aP sv = some j)) h2) n1 := hf2.only
    refine vI (fun j => decide (aP sv = some j)) hf2 (f77 L[k] sv a2.ok (only (fun j => decide (aP sv = some j)) h2) n1 (a2.s.aM fun j q => fS (decide_eq_true q)) (fun j q => by have := iv.dn j (d2 j q); omega) (ok _ (List.getElem_mem hk)).2 fo2) fun v9 h9 n9 r9 w9 hr9 hn9 f9 ⟨s', e9, b9, i9, o9⟩ hin hout hr hw => ?_
    subst e9
    have old9 : Old h2 h9 n1 := fun j hj => by
      by_cases q : aP sv = some j
      · rw [hin j (.inl (decide_eq_true q)), o9 j hj, fS (decide_eq_true q)]
      · exact hout j hj (decide_eq_false q)
    have b9' : Bytes h9 s' L[k].aJ := b9.aM (fun j q => hin j (.inr (i9 j q).1))
    simp only [Nat.reduceAdd, LB (aZ a2.ok.h a2.ok.b), gE]
    refine jO cY f9 fun H10 r10 o10 f10 => ?_
    simp only [builtin, Nat.reduceAdd, gE]
    have old10 : Old h2 H10 n1 := fun j hj => by rw [o10 j (by omega), old9 j hj]
    have accl : ∀ j, aP acc = some j → j < n1 := fun j q => q2.dL p.fr q
    have q2'' := q2'.aM (h' := H10) fun j q => old10 j (accl j q)
    have tl := T6 L (pos false L (key aI pn 0)) k
    refine cU f10 (mR (i := eK.i) (e := 31) (Q1 := fun v' h' n' => n9 + 1 ≤ n' ∧ aY h' n' ∧ Lst h' 31 70 v' ((nH L (pos false L (key aI pn 0)) k).length + 1) (cells ++ aK L[k] s') ∧ (aP v' = aP acc ∨ aP v' = some (n9 + 1) ∧ n9 + 1 < n') ∧ ∀ j, j < n9 + 1 → aP acc ≠ some j → h' j = H10 j) q2'' (kY (cnt := 1) r10 (by rw [aZ a2.ok.h a2.ok.b]; rfl)) u43 u43 cY (c8 b9.kind.2.1) (by decide) (by show 2 * (_ + 1) * 128 ≤ _; omega) (by omega) f10 (fun v' h' n' a b c d e => ⟨a, b, c, d, e⟩)) fun v11 h11 n11 r11 w11 hn11 f11 ⟨_, _, l11, i11, o11⟩ => ?_
    have o111 : ∀ j, j < n1 → aP acc ≠ some j → j ≠ n + 1 + 1 + 1 + 1 → h11 j = h1 j := fun j a b c => by rw [o11 j (by omega) b, old10 j a, ho2 j c]
    have accne : ∀ j, j < nS → aP acc ≠ some j := fun j hj q => by have := q4 j q; omega
    have c11 : h11 (n + 1) = some (Blk.row (bG.l [acc]) 43) := (o111 _ (by omega) (accne _ (by omega)) (by omega)).trans q1
    have l11n : ∀ j, j < n9 + 1 → aP acc ≠ some j → aP v11 ≠ some j := fun j hj hn q => by
      rcases i11 with w | ⟨w, _⟩
      · rw [w] at q; exact hn q
      · rw [w] at q; injection q with q; omega
    have nw : n + 1 ∉ w9 := fun q => by have := iv.dn _ (d2 _ (of_decide_eq_true (hw _ q))); omega
    have nr : n + 1 ∉ r9 := fun q => by have := iv.dn _ (d2 _ (of_decide_eq_true (hr _ q))); omega
    have v11k := l11.rds.kind
    have v11n : ∀ j, aP v11 = some j → nS ≤ j := fun j q => by
      rcases i11 with w | ⟨w, _⟩
      · rw [w] at q; exact q4 j q
      · rw [w] at q; injection q with q; omega
    simp only [Nat.reduceAdd, gE]
    refine jN (Row.write (v := v11) c11 pJ (by rw [v11k.1]; rfl) (by show 0 + 1 ≤ 1; omega) (by rw [v11k.1]; simp [v11k.2.1])) ?_
    rw [v11k.1, show bV [acc] 0 [v11] = [v11] from rfl]
    simp only [mV, bI, fgr, bP, aF, Nat.reduceAdd]
    have hlo11 : upd h11 (n + 1) (some (Blk.row (bG.l [v11]) 43)) (n + 1 + 1 + 1 + 1) = some (.loop { L49 TM with state := .busy }) := by
      rw [aH _ _ (by omega), o11 _ (by omega) (accne _ (by omega)), old10 _ (by omega)]
      exact hlo2
    refine ⟨(by (try simp (disch := first | assumption | omega) only [cJ, gF]); repeat' (first | rfl | exact (Bool.or_eq_true _ _).mpr (.inr rfl) | refine (Bool.and_eq_true _ _).mpr ⟨?_, ?_⟩)), _, hlo11, .inl ⟨.inl rfl, ⟨(f11.upd (by omega)).upd (by omega), h77, by omega, fun j hj h1' h2' => ?_, aO _ _ _, ⟨v11, cells ++ aK L[k] s', by rw [aH _ _ (by omega), aO], ?_, ?_, v11n⟩, sm'⟩⟩, fun j hj hjn => ?_, ?_⟩
    · rw [aH _ _ h2', aH _ _ h1', o111 j (by omega) (accne j (by omega)) h2']; exact p.kp j hj h1' h2'
    · rw [O0 hpk hk, List.length_append]
      exact l11.aM (fun j q => by rw [aH _ _ (by have := v11n j q; omega), aH _ _ (by have := v11n j q; omega)])
    · rw [O0 hpk hk]
      have ne2 : ∀ j, nS ≤ j → ∀ (H : Hp) b b2, upd (upd H (n + 1) b) (n + 1 + 1 + 1 + 1) b2 j = H j := fun j hj H b b2 => by rw [aH _ _ (by omega), aH _ _ (by omega)]
      refine (q3.mono (fun j q => ⟨q.1, by omega, l11n j (by omega) q.2.2⟩) (fun j q => by rw [ne2 j q.1, o111 j q.2.1 q.2.2 (by omega)])).zH (b9'.aM fun j q => ?_) a2.ok (fun j q => ⟨by have := i9 j q; omega, by have := i9 j q; omega, l11n j (by have := i9 j q; omega) (fun w => by have := accl j w; have := i9 j q; omega)⟩)
      rw [ne2 j (by have := i9 j q; omega), o11 j (by have := i9 j q; omega) (fun w => by have := accl j w; have := i9 j q; omega), o10 j (by have := i9 j q; omega)]
    · rw [aH _ _ (by omega), aH _ _ (by omega), o111 j (by omega) (accne j hjn) (by omega)]
    · rw [aH _ _ (by omega), aH _ _ (by omega), o111 _ (by omega) (accne _ (by omega)) (by omega)]
  · rintro v5 h5 n5 ⟨⟨e5, nS, hnS, hh⟩, hn5, f5⟩
    rcases hh with ⟨k, hk1, p, hk3⟩ | hr
    · refine ⟨_, p.lp, (fun q => by cases q), .normal, rfl, ?_⟩
      obtain ⟨acc, cells, c1, c2, c3, c4⟩ := p.cl
      have hns := p.ns
      have h7 := p.n7
      simp only [gE]
      have hrow : Row (upd h5 (n + 1 + 1 + 1 + 1) (some (.loop { L49 TM with state := .exhausted }))) (n + 1) [acc] := ⟨_, (aH _ _ (by omega)).trans c1⟩
      rw [aE (hrow.one (off := 0) rfl pJ rfl)]
      simp only [fgr, gE]
      refine ⟨fun j hj => ?_, k, hk1, p.sm, hk3, cells, c2.aM (fun j q => aH _ _ (by have := c4 j q; omega)), c3.mono (fun j q => ⟨by omega, q.2.1, q.2.2⟩) (fun j q => aH _ _ (by omega)), fun j q => ⟨by have := c4 j q; omega, c2.dL p.fr q⟩⟩
      rw [aH _ _ (by omega), lt j hj h5 p.kp, old6 j hj]
    · exact hr.elim
def oL (L : List Ver) (aI : List UInt8) (pn : Int) : List Ver := L.filter (same aI pn)
theorem aQ3 {K : Nat → Prop} {x : Nat} (aI : List UInt8) (pn : Int) (hl : aI.length = 32) {L : List Ver} {h : Hp} {n : Nat} (hs : Ixk K h n x L) (hc : L.length ≤ 900000) (hf : aY h n) :
    Wp (bH env (aV env) 49 [.ptr x 0, .agg (aS aI pn)]) h n fun v' h' n' => VL h' n n' v' (oL L aI pn) ∧ Old h h' n := by
  have rL := hs.rL
  obtain ⟨⟨D, M, i, q⟩, g⟩ := hs
  refine cP (f49 x aI pn hl L D M h n i (by omega) hf) fun v' h' n' ⟨o, k, hk, sm, ne, v⟩ => ⟨?_, o⟩
  have e := S8 rL g hk sm ne (fun _ => true)
  rw [List.filter_eq_self.2 fun _ _ => rfl] at e
  have e2 : nH L (pos false L (key aI pn 0)) k = oL L aI pn := by
    unfold nH oL
    rw [e]
    congr 1
    funext v
    rw [Bool.and_true]
  rwa [e2] at v
structure ad8 (h : Hp) (n : Nat) (N : a9) : Prop where
  k : N = .dG ∨ ∃ x, N = .ptr x 0
  f : ∀ h' n', Old h h' n → Wp (bH env (aV env) 73 [N]) h' n' fun v a b => v = .bool true ∧ a = h' ∧ b = n'
theorem ad8.old {h h' : Hp} {n n' : Nat} {N : a9} (q : ad8 h n N) (hn : n ≤ n') (ho : Old h h' n) : ad8 h' n' N := ⟨q.k, fun h2 n2 o => q.f h2 n2 fun j hj => by rw [o j (by omega), ho j hj]⟩
def nv (pn made value bX : Int) (s : List UInt8) : Ver := ⟨z0, pn, made, value, s, false, bX, z0⟩
def a4 : Ver := nv 3 4 0 4 []
def a6 : Ver := nv 3 6 2 0 []
def b1v : Ver := nv 1 0 0 0 [98]
def L3 : List Ver := [b1v, a4, a6]
theorem BL.get {h : Hp} {a b : Nat} {v : a9} {ls : List (List UInt8)} (l : BL h a b v ls) {i : Nat} {z : Int} (hz : z = (i : Nat)) (hi : i < ls.length) : ∃ x, (∀ h' n', Rd (indexAddr env 81 v (.int .i64 z)) h' n' [] (cS (i * 1) v)) ∧ (∀ n, Rd (load env 29 (cS (i * 1) v)) h n (rid v) x) ∧ Bytes h x ls[i] := by
  subst hz
  obtain ⟨x, e, bs, d⟩ := l.at_ hi
  exact ⟨x, fun h' n' => l.idx hi, e, bs⟩
abbrev Pt := List UInt8 × Int
def ptA (p : Pt) : a9 := .agg (aS p.1 p.2)
theorem FN {a b : UInt8} (h : u8 a = u8 b) : a = b := by
  unfold u8 at h
  injection h with h1 h2
  exact UInt8.toNat_inj.1 (by omega)
theorem lW : ∀ {a b : List UInt8}, a.map u8 = b.map u8 → a = b
  | [], [], _ => rfl
  | [], _ :: _, h => by cases h
  | _ :: _, [], h => by cases h
  | x :: a, y :: b, h => by
    simp only [List.map_cons, List.cons.injEq] at h
    rw [FN h.1, lW h.2]
theorem tO {p q : Pt} (h : ptA p = ptA q) : p = q := by
  unfold ptA aS at h
  injection h with h
  obtain ⟨h1, h2⟩ := List.append_inj' h rfl
  injection h2 with h2
  injection h2 with _ h2
  exact Prod.ext (lW h1) h2
noncomputable def isK (k a : a9) : Bool := @decide (a = k) (Classical.propDecidable _)
theorem mN {k a : a9} : isK k a = true ↔ a = k := by unfold isK; exact @decide_eq_true_iff _ (Classical.propDecidable _)
theorem xZ {k a : a9} (h : a ≠ k) : isK k a = false := by
  cases e : isK k a with
  | false => rfl
  | true => exact absurd (mN.1 e) h
theorem xB (p q : Pt) (l1 : p.1.length = 32) (l2 : q.1.length = 32) : bS env 28 (ptA p) (ptA q) = M.pure (isK (ptA p) (ptA q)) := by
  have e : bS env 28 (ptA p) (ptA q) = M.pure (decide (p.1 = q.1) && (p.2 == q.2)) := QA 97 p.1 q.1 p.2 q.2 l1 l2
  rw [e]
  congr 1
  by_cases c : p = q
  · subst c
    rw [mN.2 rfl]; simp
  · rw [xZ fun w => c (tO w).symm]
    by_cases d : p.1 = q.1
    · rw [decide_eq_true d, Bool.true_and, beq_eq_false_iff_ne]
      exact fun w => c (Prod.ext d w)
    · rw [decide_eq_false d]; rfl
theorem PA (d : Nat) (x : UInt8) : iX env (d + 1) 5 (u8 x) = M.pure () := by
  simp only [iX, und, ti5, aB]
theorem nX {α : Type} {f : α → M Unit} : ∀ (l : List α), (∀ x ∈ l, f x = M.pure ()) → CW f l = M.pure ()
  | [], _ => rfl
  | x :: l, h => by simp only [CW, h x (List.mem_cons_self ..), aB, nX l fun y hy => h y (List.mem_cons_of_mem _ hy)]
theorem GM (d : Nat) (a : List UInt8) (ha : a.length = 32) : iX env (d + 1 + 1) 25 (.agg (a.map u8)) = M.pure () := by
  rw [iX]
  simp only [und, nC, aB, gK, sizeOf, ti5]
  refine nX _ fun i hi => ?_
  have hi := List.mem_range.1 hi
  rw [Nat.mul_one, xO (by omega), aB, PA]
theorem vC (p : Pt) (l1 : p.1.length = 32) : iX env 100 28 (ptA p) = M.pure () := by
  have p0 : part env 25 (aS p.1 p.2) 0 = M.pure (.agg (p.1.map u8)) := by
    simp only [part, nC, aB, jG, List.drop_zero]
    rw [show (aS p.1 p.2).take 32 = p.1.map u8 by unfold aS; rw [List.take_append_of_le_length (by simp [l1]), List.take_of_length_le (by simp [l1])]]
  have p1 : part env 26 (aS p.1 p.2) 32 = M.pure (.int .u32 p.2) := by
    simp only [part, pK, aB, jG, gY l1, fV]
  have p2 : iX env (97 + 1 + 1) 26 (.int .u32 p.2) = M.pure () := by
    rw [iX]; simp only [und, pK, aB]
  unfold ptA
  show iX env (97 + 1 + 1 + 1) 28 (.agg (aS p.1 p.2)) = M.pure ()
  rw [iX]
  simp only [und, gG, aB, gK]
  simp only [CW, show decide ("Tx" = "_") = false from rfl, show decide ("N" = "_") = false from rfl, p0, p1, aB, GM 97 p.1 l1, p2]
def kO (q : List Pt) (p : Pt) : Nat := q.countP fun x => decide (x = p)
theorem xN (q : List Pt) (p x : Pt) : kO (q ++ [p]) x = kO q x + if p = x then 1 else 0 := by
  unfold kO
  rw [List.countP_append, List.countP_singleton]
  congr 1
  by_cases c : p = x <;> simp [c]
theorem T2 (q : List Pt) (p : Pt) : kO q p ≤ q.length := List.countP_le_length
def jS (q dd : List Pt) : List (a9 × a9) := dd.map fun p => (ptA p, .int .i64 (kO q p : Nat))
structure Pm (h : Hp) (id : Nat) (q : List Pt) : Prop where
  ex : ∃ b dd, eP h id b (jS q dd) ∧ dd.Nodup ∧ (∀ p ∈ dd, p.1.length = 32) ∧ ∀ p, p ∈ dd ↔ p ∈ q
theorem Pm.aM {h h' : Hp} {id : Nat} {q : List Pt} (m : Pm h id q) (hk : h' id = h id) : Pm h' id q := by
  obtain ⟨b, dd, a, r⟩ := m
  exact ⟨b, dd, a.aM hk, r⟩
theorem F9 (q : List Pt) (p : Pt) : ∀ (dd : List Pt) (i : Nat), (p ∉ dd ∧ dJ (isK (ptA p)) (jS q dd) i = none) ∨ ∃ j, j < dd.length ∧ dd[j]? = some p ∧ dJ (isK (ptA p)) (jS q dd) i = some (i + j, .int .i64 (kO q p : Nat))
  | [], i => .inl ⟨List.not_mem_nil, rfl⟩
  | x :: dd, i => by
    by_cases c : x = p
    · subst c
      refine .inr ⟨0, by simp, rfl, ?_⟩
      simp only [jS, List.map_cons, dJ, mN.2 rfl, Nat.add_zero, if_pos]
    · have e : dJ (isK (ptA p)) (jS q (x :: dd)) i = dJ (isK (ptA p)) (jS q dd) (i + 1) := by
        simp only [jS, List.map_cons, dJ, xZ fun w => c (tO w), Bool.false_eq_true, if_neg, not_false_eq_true]
      rcases F9 q p dd (i + 1) with ⟨h1, h2⟩ | ⟨j, h1, h2, h3⟩
      · refine .inl ⟨fun w => ?_, e.trans h2⟩
        rcases List.mem_cons.1 w with w | w
        · exact c w.symm
        · exact h1 w
      · exact .inr ⟨j + 1, by simpa using h1, by simpa using h2, by rw [e, h3, Nat.add_assoc, Nat.add_comm 1 j]⟩
theorem A8 {q : List Pt} {p : Pt} (h : p ∉ q) : kO q p = 0 := by
  unfold kO
  rw [List.countP_eq_zero]
  intro x hx
  simp only [decide_eq_true_eq]
  rintro rfl
  exact h hx
theorem FO : und env 161 = M.pure (.map 28 3) := rfl
theorem z3o : j8 env 3 = M.pure (.int .i64 0) := rfl
theorem NX {q dd : List Pt} {p : Pt} (l1 : p.1.length = 32) (hl : ∀ p ∈ dd, p.1.length = 32) : ∀ e ∈ jS q dd, bS env 28 (ptA p) e.1 = M.pure (isK (ptA p) e.1) := fun e he => by
  obtain ⟨x, hx, rfl⟩ := List.mem_map.1 he
  exact xB p x l1 (hl x hx)
theorem Pm.lookup {h : Hp} {n id : Nat} {q : List Pt} (m : Pm h id q) {p : Pt} (l1 : p.1.length = 32) : Rd (iS env 161 (.map id) (ptA p) false) h n [id] (.int .i64 (kO q p : Nat)) := by
  obtain ⟨b, dd, a, nd, hl, hm⟩ := m
  have := a.lookup (n := n) FO (vC p l1) (NX l1 hl) z3o
  rcases F9 q p dd 0 with ⟨h1, h2⟩ | ⟨j, h1, h2, h3⟩
  · rw [h2] at this
    rw [A8 fun w => h1 ((hm p).2 w)]
    exact this
  · rw [h3] at this
    exact this
def pcv (q : List Pt) (x : Pt) : Pt × Int := (x, ((kO q x : Nat) : Int))
theorem DR (q dd : List Pt) : (dd.map (pcv q)).map Ins.cv = jS q dd := by
  rw [List.map_map]; rfl
theorem IN (q : List Pt) (p : Pt) : ∀ (dd : List Pt) (i : Nat), (p ∉ dd ∧ Ins.mO p (dd.map (pcv q)) i = none) ∨ ∃ j, j < dd.length ∧ dd[j]? = some p ∧ Ins.mO p (dd.map (pcv q)) i = some (i + j, ((kO q p : Nat) : Int))
  | [], i => .inl ⟨List.not_mem_nil, rfl⟩
  | x :: dd, i => by
    by_cases c : x = p
    · subst c
      exact .inr ⟨0, by simp, rfl, by simp [Ins.mO, pcv]⟩
    · have e : Ins.mO p ((x :: dd).map (pcv q)) i = Ins.mO p (dd.map (pcv q)) (i + 1) := by
        simp only [List.map_cons, Ins.mO, pcv]
        rw [if_neg c]
      rcases IN q p dd (i + 1) with ⟨h1, h2⟩ | ⟨j, h1, h2, h3⟩
      · refine .inl ⟨fun w => ?_, e.trans h2⟩
        rcases List.mem_cons.1 w with w | w
        · exact c w.symm
        · exact h1 w
      · exact .inr ⟨j + 1, by simpa using h1, by simpa using h2, by rw [e, h3, Nat.add_assoc, Nat.add_comm 1 j]⟩
theorem HI {q dd : List Pt} {p : Pt} (nd : dd.Nodup) (hm : ∀ p, p ∈ dd ↔ p ∈ q) (hq : q.length ≤ 10000000) : ∃ dd' : List Pt, Ins.bump p (dd.map (pcv q)) = dd'.map (pcv (q ++ [p])) ∧ dd'.Nodup ∧ ∀ x, x ∈ dd' ↔ x ∈ q ++ [p] := by
  have hle := T2 q p
  rcases IN q p dd 0 with ⟨h1, h2⟩ | ⟨j, h1, h2, h3⟩
  · have hnq : p ∉ q := fun w => h1 ((hm p).2 w)
    refine ⟨dd ++ [p], ?_, ?_, fun x => by rw [List.mem_append, List.mem_append, hm]⟩
    · unfold Ins.bump
      rw [h2, List.map_append]
      have e2 : dd.map (pcv (q ++ [p])) = dd.map (pcv q) := List.map_congr_left fun x hx => by
        unfold pcv
        rw [xN, if_neg (fun w => h1 (by rw [w]; exact hx))]; rfl
      rw [e2]
      simp only [List.map_cons, List.map_nil, pcv]
      rw [xN, if_pos rfl, A8 hnq]; rfl
    · rw [List.nodup_append]
      exact ⟨nd, by simp, fun x hx y hy => by rw [List.mem_singleton] at hy; subst hy; exact fun w => h1 (w ▸ hx)⟩
  · rw [Nat.zero_add] at h3
    refine ⟨dd, ?_, nd, fun x => ?_⟩
    · unfold Ins.bump
      rw [h3]
      simp only
      rw [w64 (by omega) (by omega)]
      refine List.ext_getElem? fun i => ?_
      rw [List.getElem?_modify, List.getElem?_map, List.getElem?_map]
      cases ed : dd[i]? with
      | none => rfl
      | some x =>
        simp only [Option.map_some, Option.map_eq_map]
        unfold pcv
        rw [xN]
        by_cases c : j = i
        · subst c
          rw [h2] at ed
          injection ed with ed
          subst ed
          simp
        · simp only [if_neg c]
          rw [if_neg fun w => c ?_]
          · simp
          · subst w
            obtain ⟨_, e1⟩ := List.getElem?_eq_some_iff.1 h2
            obtain ⟨_, e2⟩ := List.getElem?_eq_some_iff.1 ed
            exact (List.getElem_inj nd).1 (e1.trans e2.symm)
    · rw [hm, List.mem_append, List.mem_singleton]
      constructor
      · exact fun w => .inl w
      · rintro (w | w)
        · exact w
        · subst w; exact (hm x).1 (List.mem_of_getElem? h2)
theorem HY {h : Hp} {n id x : Nat} {tm : List a9} {mm cc : Nat} {ts : List Nat} {cells : List a9} {p : Pt} {q : List Pt} {Q : eS × List a9 → Hp → Nat → Prop}
    (hm : nth tm mm undef = .map id) (hc : nth tm cc undef = .ptr x 0) (hts : ts.all (fun t => t.blt tm.length) = true) (hr : Row h x cells) (he : cells.take 33 = aS p.1 p.2) (l1 : p.1.length = 32) (m : Pm h id q) (hq : q.length ≤ 10000000)
    (hQ : ∀ H2, (∀ j, j ≠ id → H2 j = h j) → Pm H2 id (q ++ [p]) → Q (.normal, Ins.vX tm ts) H2 n) : Wp (Ins.rP mm cc ts tm) h n Q := by
  obtain ⟨b, dd, a, nd, hl, hmm⟩ := m
  obtain ⟨t, hr⟩ := hr
  obtain ⟨dd', e1, e2, e3⟩ := HI (p := p) nd hmm hq
  have a' := a
  unfold eP at a'
  have hb : Ins.F6 (.row (.l cells) t) (.map (fB b (jS q dd)) (b + (jS q dd).length)) = some (p, b, dd.map (pcv q)) := by
    have q1 : Ins.FZ (cells.take 33) = some p := by rw [he]; exact Ins.IB l1
    have q2 : b + (jS q dd).length - (fB b (jS q dd)).length = b := by rw [qI]; omega
    have q3 : Ins.oR b (fB b (jS q dd)) = some (dd.map (pcv q)) := by
      rw [← DR]
      exact Ins.uI _ _ fun x hx => by
        obtain ⟨y, hy, rfl⟩ := List.mem_map.1 hx
        exact hl y hy
    have q4 : (fB b (jS q dd)).length.ble (b + (jS q dd).length) = true := by rw [qI]; exact cO (by omega)
    unfold Ins.F6
    simp only [q1, q2, q3, q4]
  have hp : eP (upd h id (some (.map (fB b ((Ins.bump p (dd.map (pcv q))).map Ins.cv)) (b + (Ins.bump p (dd.map (pcv q))).length)))) id b (jS (q ++ [p]) dd') := by
    unfold eP
    rw [aO, e1, DR]
    simp only [jS, List.length_map]
  unfold Ins.rP
  simp only [hm, hc, hts, Nat.beq_refl, Bool.true_and, eT, hr, a', Option.some.injEq, exists_eq_left', hb, oD, aT]
  refine ⟨by simp [], hQ _ (fun j hj => aH _ _ hj) ⟨b, dd', hp, e2, fun x hx => ?_, e3⟩⟩
  rcases List.mem_append.1 ((e3 x).1 hx) with w | w
  · exact hl x ((hmm x).2 w)
  · rw [List.mem_singleton] at w; subst w; exact l1
theorem Pm.clear {h : Hp} {n id : Nat} {q : List Pt} (m : Pm h id q) : ∃ h2, Wr (qR env [161] (.map id)) h n [id] [id] (a9.tup []) h2 ∧ (∀ j, j ≠ id → h2 j = h j) ∧ Pm h2 id [] := by
  obtain ⟨b, dd, a, nd, hl, hm⟩ := m
  obtain ⟨h2, w, a2, k⟩ := a.clear (n := n) (ts := []) FO
  exact ⟨h2, w, k, _, [], a2, List.nodup_nil, (fun p hp => by cases hp), (fun p => ⟨fun w => (by cases w), fun w => (by cases w)⟩)⟩
theorem Pm.new {h : Hp} {id : Nat} (e : h id = some (.map [] 0)) : Pm h id [] := ⟨0, [], e, List.nodup_nil, (fun p hp => by cases hp), (fun p => ⟨fun w => (by cases w), fun w => (by cases w)⟩)⟩
structure Spd where
  aI : List UInt8
  pn : Int
  by_ : List UInt8
def eJ (s : Spd) : List a9 := aS s.aI s.pn ++ s.by_.map u8
structure Spd.Ok (s : Spd) : Prop where
  h : s.aI.length = 32
  b : s.by_.length = 32
theorem lM {s : Spd} (o : s.Ok) : (eJ s).length = 65 := by simp [eJ, bM o.h, o.b]
theorem sO (s : Spd) : (eJ s).all bB = true := by
  unfold eJ
  rw [List.all_append, sR, List.all_map]
  simp [u8, bB]
theorem N2 {s : Spd} (o : s.Ok) : (eJ s).take 33 = aS s.aI s.pn := by
  unfold eJ; rw [List.take_append_of_le_length (by rw [bM o.h]; omega), List.take_of_length_le (by rw [bM o.h]; omega)]
theorem wV {h : Hp} {n id : Nat} {s : Spd} (hr : Row h id (eJ s)) (o : s.Ok) : Rd (load env 28 (.ptr id 0)) h n [id] (.agg (aS s.aI s.pn)) := by
  have := hr.agg (E := env) (n := n) (off := 0) gG rfl (by rw [lM o]; decide)
  have e : ((eJ s).drop 0).take 33 = aS s.aI s.pn := by unfold eJ; rw [List.drop_zero, List.take_append_of_le_length (by rw [bM o.h]; omega), List.take_of_length_le (by rw [bM o.h]; omega)]
  exact e ▸ this
theorem SR {h : Hp} {n id : Nat} {s : Spd} (hr : Row h id (eJ s)) (o : s.Ok) : Rd (load env 25 (.ptr id 33)) h n [id] (.agg (s.by_.map u8)) := by
  have := hr.agg (E := env) (n := n) (off := 33) nC rfl (by rw [lM o]; decide)
  have e : ((eJ s).drop 33).take 32 = s.by_.map u8 := by unfold eJ; rw [← bM (pn := s.pn) o.h, List.drop_left, List.take_of_length_le (by simp [o.b])]
  exact e ▸ this
def SL (h : Hp) (a b : Nat) (v : a9) (ss : List Spd) : Prop := ∃ cells, Lst h 48 65 v ss.length cells ∧ (∀ (j : Nat) (hj : j < ss.length), (cells.drop (j * 65)).take 65 = eJ ss[j] ∧ ss[j].Ok) ∧ ∀ j, aP v = some j → a ≤ j ∧ j < b
theorem SL.aM {h h' : Hp} {a b : Nat} {v : a9} {ss : List Spd} (l : SL h a b v ss) (hk : ∀ j, a ≤ j → j < b → h' j = h j) : SL h' a b v ss := by
  obtain ⟨cells, c1, c2, c3⟩ := l
  exact ⟨cells, c1.aM fun j q => hk j (c3 j q).1 (c3 j q).2, c2, c3⟩
theorem u44 : und env 44 = M.pure (.slice 48) := rfl
theorem au6 : sizeOf env 48 = M.pure 65 := rfl
theorem SL.len {h : Hp} {a b : Nat} {v : a9} {ss : List Spd} (l : SL h a b v ss) {ts : List TypeId} : cA env (44 :: ts) v = M.pure (.int .i64 (ss.length : Nat)) := by
  obtain ⟨cells, c1, c2, c3⟩ := l
  exact c1.rds.cA u44
theorem SL.idx {h : Hp} {a b : Nat} {v : a9} {ss : List Spd} (l : SL h a b v ss) {i : Nat} (hi : i < ss.length) {h' : Hp} {n' : Nat} : Rd (indexAddr env 44 v (.int .i64 ((i : Nat) : Int))) h' n' [] (cS (i * 65) v) := by
  obtain ⟨cells, c1, c2, c3⟩ := l
  exact c1.rds.idx u44 au6 rfl hi
theorem SL.kind {h : Hp} {a b : Nat} {v : a9} {ss : List Spd} (l : SL h a b v ss) : v.cells = [v] ∧ bB v = true ∧ dD v = false := by
  obtain ⟨cells, c1, c2, c3⟩ := l
  exact c1.rds.kind
theorem VL.kind {h : Hp} {a b : Nat} {v : a9} {ss : List Ver} (l : VL h a b v ss) : v.cells = [v] ∧ bB v = true ∧ dD v = false := by
  obtain ⟨cells, c1, c2, c3⟩ := l
  exact c1.rds.kind
theorem SL.all {h : Hp} {n a b : Nat} {v : a9} {ss : List Spd} (l : SL h a b v ss) {i : Nat} (hi : i < ss.length) : ss[i].Ok ∧ Rd (load env 48 (cS (i * 65) v)) h n (rid v) (.agg (eJ ss[i])) := by
  obtain ⟨cells, c1, c2, c3⟩ := l
  obtain ⟨e, o⟩ := c2 i hi
  refine ⟨o, ?_⟩
  have hl : cells.length = ss.length * 65 := c1.rds.length
  have := c1.rds.agg (E := env) (n := n) (k := i * 65) zE rfl (by decide) (by show i * 65 + 65 ≤ _; omega)
  have e' : (cells.drop (i * 65)).take 65 = eJ ss[i] := e
  exact e' ▸ this
structure App where
  bJ : Int
  block : List UInt8
  made : List Ver
  bR : List Spd
  eD : Int
  left : Int
def aX (A : App) (mv sv : a9) : List a9 := .int .i64 A.bJ :: (A.block.map u8 ++ [mv, sv, .int .i64 A.eD, .int .i64 A.left])
structure jT (h : Hp) (a b : Nat) (A : App) (mv sv : a9) : Prop where
  m : VL h a b mv A.made
  s : SL h a b sv A.bR
  b : A.block.length = 32
  ml : A.made.length ≤ 1000000
  sl : A.bR.length ≤ 1000000
theorem jT.aM {h h' : Hp} {a b : Nat} {A : App} {mv sv : a9} (l : jT h a b A mv sv) (hk : ∀ j, a ≤ j → j < b → h' j = h j) : jT h' a b A mv sv := ⟨l.m.aM hk, l.s.aM hk, l.b, l.ml, l.sl⟩
theorem cD {A : App} {mv sv : a9} (hb : A.block.length = 32) : (aX A mv sv).length = 37 := by simp [aX, hb]
theorem nZ {A : App} {mv sv : a9} (hb : A.block.length = 32) (k : Nat) : (aX A mv sv)[33 + k]? = [mv, sv, .int .i64 A.eD, .int .i64 A.left][k]? := by
  unfold aX
  rw [show 33 + k = 32 + k + 1 by omega, List.getElem?_cons_succ, List.getElem?_append_right (by simp [hb]), List.length_map, hb]
  congr 1; omega
theorem vQ {h : Hp} {n id : Nat} {A : App} {mv sv : a9} (hr : Row h id (aX A mv sv)) : Rd (load env 3 (.ptr id 0)) h n [id] (.int .i64 A.bJ) := hr.one rfl ti3 rfl
theorem mY {h : Hp} {n id : Nat} {A : App} {mv sv : a9} (hr : Row h id (aX A mv sv)) (hb : A.block.length = 32) : Rd (load env 43 (.ptr id 33)) h n [id] mv := hr.one (nZ hb 0) pJ rfl
theorem vP {h : Hp} {n id : Nat} {A : App} {mv sv : a9} (hr : Row h id (aX A mv sv)) (hb : A.block.length = 32) : Rd (load env 44 (.ptr id 34)) h n [id] sv := hr.one (nZ hb 1) FP rfl
theorem CV {h : Hp} {n id : Nat} {A : App} {mv sv : a9} (hr : Row h id (aX A mv sv)) (hb : A.block.length = 32) : Rd (load env 2 (.ptr id 35)) h n [id] (.int .i64 A.eD) := hr.one (nZ hb 2) ti2 rfl
theorem CU {h : Hp} {n id : Nat} {A : App} {mv sv : a9} (hr : Row h id (aX A mv sv)) (hb : A.block.length = 32) : Rd (load env 2 (.ptr id 36)) h n [id] (.int .i64 A.left) := hr.one (nZ hb 3) ti2 rfl
theorem mF {h : Hp} {n id : Nat} {A : App} {mv sv : a9} (hr : Row h id (aX A mv sv)) (hb : A.block.length = 32) : Rd (load env 46 (.ptr id 0)) h n [id] (.agg (aX A mv sv)) := hr.eF mG rfl (cD hb)
theorem UR {h : Hp} {n id : Nat} {A : App} {mv sv : a9} (hr : Row h id (aX A mv sv)) (hb : A.block.length = 32) : Rd (load env 25 (.ptr id 1)) h n [id] (.agg (A.block.map u8)) := by
  have := hr.agg (E := env) (n := n) (off := 1) nC rfl (by rw [cD hb]; decide)
  have e : ((aX A mv sv).drop 1).take 32 = A.block.map u8 := by unfold aX; rw [List.drop_succ_cons, List.drop_zero, List.take_append_of_le_length (by simp [hb]), List.take_of_length_le (by simp [hb])]
  exact e ▸ this
def lV (n : Int) : Bool := decide (0 ≤ n) && decide (n ≤ 2100000000000000)
def xA (n : Int) : Bool := decide (0 ≤ n) && decide (n ≤ 1048576)
theorem f99 (z : Int) (h : Hp) (n : Nat) : Wp (bH env (aV env) 99 [.int .i64 z]) h n fun v' h' n' => v' = .bool (xA z) ∧ h' = h ∧ n' = n := by
  refine aU aK1 ay3 ?_
  unfold xA
  by_cases c : 0 ≤ z
  · simp only [TZ, Try.f99, Option.getD_some, List.replicate, fgr, bor, bE, Nat.reduceSub, ge_iff_le, c, gE]
  · simp only [TZ, Try.f99, Option.getD_some, List.replicate, fgr, bor, bE, Nat.reduceSub, ge_iff_le, c, gE]
theorem f100 (z : Int) (h : Hp) (n : Nat) : Wp (bH env (aV env) 100 [.int .i64 z]) h n fun v' h' n' => v' = .bool (lV z) ∧ h' = h ∧ n' = n := by
  refine aU ar4 an0 ?_
  unfold lV
  by_cases c : 0 ≤ z
  · simp only [IU, Try.f100, Option.getD_some, List.replicate, fgr, bor, bE, Nat.reduceSub, ge_iff_le, c, gE]
  · simp only [IU, Try.f100, Option.getD_some, List.replicate, fgr, bor, bE, Nat.reduceSub, ge_iff_le, c, gE]
def ptV (v : Ver) : Pt := (v.aI, v.pn)
def ptS (s : Spd) : Pt := (s.aI, s.pn)
def oP (z : Int) (v : Ver) : Bool := decide (v.made = z) && decide (v.bX = 0) && decide (v.by_ = z32) && lV v.value && decide (v.aJ.length ≤ 2000)
def KA (z : Int) (L : List Ver) (i : Nat) : Bool := match L[i]? with
  | some v => oP z v && decide (kO ((L.take (i + 1)).map ptV) (ptV v) = 1)
  | none => true
def OV (L : List Spd) (i : Nat) : Bool := match L[i]? with
  | some v => decide (kO ((L.take (i + 1)).map ptS) (ptS v) = 1)
  | none => true
theorem ax5 : fP env.sQ 113 4 Ins.BM.c = some Ins.uQ := Ins.tB Ins.BM _ rfl
theorem ai1 : fP env.sQ 113 12 Ins.tL.c = some Ins.rT := by
  show fP [Ins.tL] 113 12 _ = _
  exact Ins.tB Ins.tL _ rfl
theorem KC (Q : dI) (ks : List Kf) (Y mv sv : a9) (c id a b n0 : Nat) (A : App) (hid : n0 ≤ id) (hc : c < n0) (hb : b ≤ n0)
    (P : Nat → Hp → Prop) (R : Hp → Prop)
    (hP : ∀ k h, P k h → Row h c (aX A mv sv) ∧ jT h a b A mv sv)
    (hst : ∀ k h h', P k h → (∀ j, j < n0 → h' j = h j) → P k h')
    (hsr : ∀ h h', R h → (∀ j, j < n0 → h' j = h j) → R h')
    (hY : ∀ (k : Nat) (hk : k < A.made.length) (w : a9) (h : Hp) (n : Nat), P k h → n0 ≤ n → aY h n → w = .bool (KA A.bJ A.made k) → Wp (jQ env (aV env) Y [ptA (ptV A.made[k]), w]) h n fun v' h' n' => ((yes true v' ∧ P (k + 1) h') ∨ (yes false v' ∧ R h')) ∧ ∀ j, n0 ≤ j → j < n → h' j = h j)
    (hT : ∀ (h : Hp) (n : Nat) (x5 x6 x8 x14 x63 x67 x68 x69 x70 x89 : a9), P A.made.length h → Pm h id (A.made.map ptV) → id < n → aY h n →
      cV env 113 none Q ks (.exit 0) (Y :: .ptr c 0 :: a9.aA :: .map id :: a9.aA :: x5 :: x6 :: a9.aA :: x8 :: a9.aA :: a9.aA :: mv :: .int .i64 (A.made.length : Nat) :: .int .i64 (A.made.length : Nat) :: x14 :: a9.aA :: a9.aA :: a9.aA :: a9.aA :: a9.aA :: a9.aA :: a9.aA :: a9.aA :: a9.aA :: a9.aA :: a9.aA :: a9.aA :: a9.aA :: a9.aA :: a9.aA :: a9.aA :: a9.aA :: a9.aA :: a9.aA :: a9.aA :: a9.aA :: a9.aA :: a9.aA :: a9.aA :: a9.aA :: a9.aA :: a9.aA :: a9.aA :: a9.aA :: a9.aA :: a9.aA :: a9.aA :: a9.aA :: a9.aA :: a9.aA :: a9.aA :: a9.aA :: a9.aA :: a9.aA :: a9.aA :: a9.aA :: a9.aA :: a9.aA :: a9.aA :: a9.aA :: a9.aA :: a9.aA :: a9.aA :: x63 :: a9.aA :: a9.aA :: a9.aA :: x67 :: x68 :: x69 :: x70 :: a9.aA :: a9.aA :: a9.aA :: a9.aA :: a9.aA :: a9.aA :: a9.aA :: a9.aA :: a9.aA :: a9.aA :: a9.aA :: a9.aA :: a9.aA :: a9.aA :: a9.aA :: a9.aA :: a9.aA :: a9.aA :: x89 :: a9.aA :: []) h n)
    (hR : ∀ (h : Hp) (n : Nat) (tm : List a9), R h → cV env 113 none Q ks .ret tm h n) :
    ∀ (m i : Nat) (h : Hp) (n : Nat) (x5 x6 x8 x14 x63 x67 x68 x69 x70 x89 : a9), i + m = A.made.length → P i h → Pm h id ((A.made.take i).map ptV) → id < n → aY h n →
      Run env 113 none Q (.loop C7) ks (Y :: .ptr c 0 :: a9.aA :: .map id :: a9.aA :: x5 :: x6 :: a9.aA :: x8 :: a9.aA :: a9.aA :: mv :: .int .i64 (A.made.length : Nat) :: .int .i64 (i : Nat) :: x14 :: a9.aA :: a9.aA :: a9.aA :: a9.aA :: a9.aA :: a9.aA :: a9.aA :: a9.aA :: a9.aA :: a9.aA :: a9.aA :: a9.aA :: a9.aA :: a9.aA :: a9.aA :: a9.aA :: a9.aA :: a9.aA :: a9.aA :: a9.aA :: a9.aA :: a9.aA :: a9.aA :: a9.aA :: a9.aA :: a9.aA :: a9.aA :: a9.aA :: a9.aA :: a9.aA :: a9.aA :: a9.aA :: a9.aA :: a9.aA :: a9.aA :: a9.aA :: a9.aA :: a9.aA :: a9.aA :: a9.aA :: a9.aA :: a9.aA :: a9.aA :: a9.aA :: a9.aA :: a9.aA :: a9.aA :: a9.aA :: x63 :: a9.aA :: a9.aA :: a9.aA :: x67 :: x68 :: x69 :: x70 :: a9.aA :: a9.aA :: a9.aA :: a9.aA :: a9.aA :: a9.aA :: a9.aA :: a9.aA :: a9.aA :: a9.aA :: a9.aA :: a9.aA :: a9.aA :: a9.aA :: a9.aA :: a9.aA :: a9.aA :: a9.aA :: x89 :: a9.aA :: []) h n := by
  intro m
  induction m with
  | zero =>
    intro i h n x5 x6 x8 x14 x63 x67 x68 x69 x70 x89 hm hp hmp hin hf
    have : i = A.made.length := by omega
    subst this
    rw [bO]
    have hcc : ¬ (((A.made.length : Nat) : Int) < ((A.made.length : Nat) : Int)) := by omega
    simp only [C7, bC, Try.f113, Option.getD_some, fgr, bor, List.getD_cons_zero, hcc, gE]
    rw [List.take_length] at hmp
    exact hT h n _ _ _ _ _ _ _ _ _ _ hp hmp hin hf
  | succ m ih =>
    intro i h n x5 x6 x8 x14 x63 x67 x68 x69 x70 x89 hm hp hmp hin hf
    obtain ⟨hrc, ha⟩ := hP i h hp
    have hil : i < A.made.length := by omega
    have hcc : (((i : Nat) : Int) < ((A.made.length : Nat) : Int)) := by omega
    have w1 : IntKind.i64.wrap (((i : Nat) : Int) + 1) = ((i + 1 : Nat) : Int) := by rw [w64 (by omega) (by have := ha.ml; omega)]; omega
    obtain ⟨sw, va⟩ := ha.m.at_ hil
    have hge : A.made[i]? = some A.made[i] := List.getElem?_eq_getElem hil
    have hmay : KA A.bJ A.made i = (oP A.bJ A.made[i] && decide (kO ((A.made.take (i + 1)).map ptV) (ptV A.made[i]) = 1)) := by unfold KA; rw [hge]
    have htk : (A.made.take (i + 1)).map ptV = (A.made.take i).map ptV ++ [ptV A.made[i]] := by rw [hU hil, List.map_append]; rfl
    have hYi := hY i hil
    rw [hmay] at hYi
    generalize A.made[i] = v at *
    rw [bO]
    simp only [C7, bC, Try.f113, Option.getD_some, fgr, bor, List.getD_cons_zero, hcc, gE]
    rw [aE (ha.m.idx hil)]
    simp only [gE]
    rw [aE (va.all n)]
    simp only [gE]
    rw [bU cY rfl]
    simp only [cel, gE]
    have kd := va.s.kind
    refine cK (v := .agg (aK v sw)) cY rfl (aZ va.ok.h va.ok.b) (c8 kd.2.1) hf fun H1 r1 p1 f1 => ?_
    replace r1 : Row H1 n (aK v sw) := r1
    have m1 : Pm H1 id ((A.made.take i).map ptV) := hmp.aM (p1 id (by omega))
    have hlen : ((A.made.take i).map ptV).length ≤ 1000000 := by rw [List.length_map, List.length_take]; have := ha.ml; omega
    simp only [bI, fgr, bP, aF]
    refine A4 (act := Ins.uQ) ax5 ?_
    unfold Ins.uQ
    refine HY (p := ptV v) rfl rfl rfl r1 (xF va.ok.h) va.ok.h m1 (by omega) fun H3 k3 m3 => ?_
    have e3 : ∀ j, j < n0 → H3 j = h j := fun j hj => by rw [k3 j (by omega), p1 j (by omega)]
    have p3 : P i H3 := hst i h H3 hp e3
    have r3 : Row H3 n (aK v sw) := r1.aM (k3 n (by omega))
    have f3 : aY H3 (n + 1) := fun j hj => by rw [k3 j (by omega)]; exact f1 j hj
    have bs3 : Bytes H3 sw v.aJ := va.s.aM fun j q => e3 j (by have := va.sn j q; omega)
    obtain ⟨hrc3, ha3⟩ := hP i H3 p3
    rw [← htk] at m3
    simp only [tyr, aR, Ins.vX, gE]
    rw [aE (eX r3 va.ok)]
    simp only [tyr, aR, gE]
    rw [aE (vQ hrc3)]
    by_cases c1 : v.made = A.bJ
    rotate_left
    · have hfit : (oP A.bJ v && decide (kO ((A.made.take (i + 1)).map ptV) (ptV v) = 1)) = false := by simp [oP, c1]
      simp only [fgr, bor, bE, c1, gE]
      refine bW ⟨rfl, ?_⟩
      simp only [tyr, aR, Nat.reduceAdd, gE]
      rw [aW (iL r3 va.ok)]
      simp only [bE, Nat.reduceAdd, gE]
      refine cU f3 (hYi (.bool false) H3 (n + 1) p3 (by omega) f3 (by rw [hfit])) fun v4 h4 n4 rr ww hn4 f4 ⟨hh, kk⟩ => ?_
      rcases hh with ⟨e4 | e4, hp4⟩ | ⟨e4 | e4, hr4⟩
      · subst e4
        simp only [fgr, bor, bZ, unOp, Nat.reduceAdd, gE]
        refine ⟨(by (try simp (disch := first | assumption | omega) only [cJ, gF]); repeat' (first | rfl | exact (Bool.or_eq_true _ _).mpr (.inr rfl) | refine (Bool.and_eq_true _ _).mpr ⟨?_, ?_⟩)), ?_⟩
        simp only [w1]
        exact ih (i + 1) h4 n4 _ _ _ _ _ _ _ _ _ _ (by omega) hp4 (m3.aM (kk id hid (by omega))) (by omega) f4
      · subst e4
        simp only [fgr, bor, bZ, unOp, Nat.reduceAdd, gE]
        refine ⟨(by (try simp (disch := first | assumption | omega) only [cJ, gF]); repeat' (first | rfl | exact (Bool.or_eq_true _ _).mpr (.inr rfl) | refine (Bool.and_eq_true _ _).mpr ⟨?_, ?_⟩)), ?_⟩
        simp only [w1]
        exact ih (i + 1) h4 n4 _ _ _ _ _ _ _ _ _ _ (by omega) hp4 (m3.aM (kk id hid (by omega))) (by omega) f4
      · subst e4
        simp only [fgr, unOp, Nat.reduceAdd, gE]
        exact ⟨(by (try simp (disch := first | assumption | omega) only [cJ, gF]); repeat' (first | rfl | exact (Bool.or_eq_true _ _).mpr (.inr rfl) | refine (Bool.and_eq_true _ _).mpr ⟨?_, ?_⟩)), hR h4 n4 _ hr4⟩
      · subst e4
        simp only [fgr, unOp, Nat.reduceAdd, gE]
        exact ⟨(by (try simp (disch := first | assumption | omega) only [cJ, gF]); repeat' (first | rfl | exact (Bool.or_eq_true _ _).mpr (.inr rfl) | refine (Bool.and_eq_true _ _).mpr ⟨?_, ?_⟩)), hR h4 n4 _ hr4⟩
    simp only [tyr, bor, aR, c1, gE]
    rw [aE (dB r3 va.ok)]
    by_cases c2 : v.bX = 0
    rotate_left
    · have hfit : (oP A.bJ v && decide (kO ((A.made.take (i + 1)).map ptV) (ptV v) = 1)) = false := by simp [oP, c2]
      simp only [fgr, bor, bE, c2, gE]
      refine bW ⟨rfl, ?_⟩
      simp only [tyr, aR, Nat.reduceAdd, gE]
      rw [aW (iL r3 va.ok)]
      simp only [bE, Nat.reduceAdd, gE]
      refine cU f3 (hYi (.bool false) H3 (n + 1) p3 (by omega) f3 (by rw [hfit])) fun v4 h4 n4 rr ww hn4 f4 ⟨hh, kk⟩ => ?_
      rcases hh with ⟨e4 | e4, hp4⟩ | ⟨e4 | e4, hr4⟩
      · subst e4
        simp only [fgr, bor, bZ, unOp, Nat.reduceAdd, gE]
        refine ⟨(by (try simp (disch := first | assumption | omega) only [cJ, gF]); repeat' (first | rfl | exact (Bool.or_eq_true _ _).mpr (.inr rfl) | refine (Bool.and_eq_true _ _).mpr ⟨?_, ?_⟩)), ?_⟩
        simp only [w1]
        exact ih (i + 1) h4 n4 _ _ _ _ _ _ _ _ _ _ (by omega) hp4 (m3.aM (kk id hid (by omega))) (by omega) f4
      · subst e4
        simp only [fgr, bor, bZ, unOp, Nat.reduceAdd, gE]
        refine ⟨(by (try simp (disch := first | assumption | omega) only [cJ, gF]); repeat' (first | rfl | exact (Bool.or_eq_true _ _).mpr (.inr rfl) | refine (Bool.and_eq_true _ _).mpr ⟨?_, ?_⟩)), ?_⟩
        simp only [w1]
        exact ih (i + 1) h4 n4 _ _ _ _ _ _ _ _ _ _ (by omega) hp4 (m3.aM (kk id hid (by omega))) (by omega) f4
      · subst e4
        simp only [fgr, unOp, Nat.reduceAdd, gE]
        exact ⟨(by (try simp (disch := first | assumption | omega) only [cJ, gF]); repeat' (first | rfl | exact (Bool.or_eq_true _ _).mpr (.inr rfl) | refine (Bool.and_eq_true _ _).mpr ⟨?_, ?_⟩)), hR h4 n4 _ hr4⟩
      · subst e4
        simp only [fgr, unOp, Nat.reduceAdd, gE]
        exact ⟨(by (try simp (disch := first | assumption | omega) only [cJ, gF]); repeat' (first | rfl | exact (Bool.or_eq_true _ _).mpr (.inr rfl) | refine (Bool.and_eq_true _ _).mpr ⟨?_, ?_⟩)), hR h4 n4 _ hr4⟩
    simp only [tyr, bor, bE, aR, c2, gE]
    rw [aE (FW r3 va.ok)]
    have heq := VE v.by_ z32 va.ok.b rfl
    by_cases c3 : v.by_ = z32
    rotate_left
    · have hfit : (oP A.bJ v && decide (kO ((A.made.take (i + 1)).map ptV) (ptV v) = 1)) = false := by simp [oP, c3]
      rw [decide_eq_false c3] at heq
      simp only [fgr, bE, b25, heq, gE]
      refine bW ⟨rfl, ?_⟩
      simp only [tyr, aR, Nat.reduceAdd, gE]
      rw [aW (iL r3 va.ok)]
      simp only [bE, Nat.reduceAdd, gE]
      refine cU f3 (hYi (.bool false) H3 (n + 1) p3 (by omega) f3 (by rw [hfit])) fun v4 h4 n4 rr ww hn4 f4 ⟨hh, kk⟩ => ?_
      rcases hh with ⟨e4 | e4, hp4⟩ | ⟨e4 | e4, hr4⟩
      · subst e4
        simp only [fgr, bor, bZ, unOp, Nat.reduceAdd, gE]
        refine ⟨(by (try simp (disch := first | assumption | omega) only [cJ, gF]); repeat' (first | rfl | exact (Bool.or_eq_true _ _).mpr (.inr rfl) | refine (Bool.and_eq_true _ _).mpr ⟨?_, ?_⟩)), ?_⟩
        simp only [w1]
        exact ih (i + 1) h4 n4 _ _ _ _ _ _ _ _ _ _ (by omega) hp4 (m3.aM (kk id hid (by omega))) (by omega) f4
      · subst e4
        simp only [fgr, bor, bZ, unOp, Nat.reduceAdd, gE]
        refine ⟨(by (try simp (disch := first | assumption | omega) only [cJ, gF]); repeat' (first | rfl | exact (Bool.or_eq_true _ _).mpr (.inr rfl) | refine (Bool.and_eq_true _ _).mpr ⟨?_, ?_⟩)), ?_⟩
        simp only [w1]
        exact ih (i + 1) h4 n4 _ _ _ _ _ _ _ _ _ _ (by omega) hp4 (m3.aM (kk id hid (by omega))) (by omega) f4
      · subst e4
        simp only [fgr, unOp, Nat.reduceAdd, gE]
        exact ⟨(by (try simp (disch := first | assumption | omega) only [cJ, gF]); repeat' (first | rfl | exact (Bool.or_eq_true _ _).mpr (.inr rfl) | refine (Bool.and_eq_true _ _).mpr ⟨?_, ?_⟩)), hR h4 n4 _ hr4⟩
      · subst e4
        simp only [fgr, unOp, Nat.reduceAdd, gE]
        exact ⟨(by (try simp (disch := first | assumption | omega) only [cJ, gF]); repeat' (first | rfl | exact (Bool.or_eq_true _ _).mpr (.inr rfl) | refine (Bool.and_eq_true _ _).mpr ⟨?_, ?_⟩)), hR h4 n4 _ hr4⟩
    rw [decide_eq_true c3] at heq
    simp only [tyr, bE, aR, b25, heq, gE]
    rw [aE (jY r3 va.ok)]
    simp only [gE]
    refine dA (f100 v.value H3 (n + 1)) ?_
    cases c4 : lV v.value with
    | false =>
      have hfit : (oP A.bJ v && decide (kO ((A.made.take (i + 1)).map ptV) (ptV v) = 1)) = false := by simp [oP, c4]
      simp only [fgr, bE, gE]
      refine bW ⟨rfl, ?_⟩
      simp only [tyr, aR, Nat.reduceAdd, gE]
      rw [aW (iL r3 va.ok)]
      simp only [bE, Nat.reduceAdd, gE]
      refine cU f3 (hYi (.bool false) H3 (n + 1) p3 (by omega) f3 (by rw [hfit])) fun v4 h4 n4 rr ww hn4 f4 ⟨hh, kk⟩ => ?_
      rcases hh with ⟨e4 | e4, hp4⟩ | ⟨e4 | e4, hr4⟩
      · subst e4
        simp only [fgr, bor, bZ, unOp, Nat.reduceAdd, gE]
        refine ⟨(by (try simp (disch := first | assumption | omega) only [cJ, gF]); repeat' (first | rfl | exact (Bool.or_eq_true _ _).mpr (.inr rfl) | refine (Bool.and_eq_true _ _).mpr ⟨?_, ?_⟩)), ?_⟩
        simp only [w1]
        exact ih (i + 1) h4 n4 _ _ _ _ _ _ _ _ _ _ (by omega) hp4 (m3.aM (kk id hid (by omega))) (by omega) f4
      · subst e4
        simp only [fgr, bor, bZ, unOp, Nat.reduceAdd, gE]
        refine ⟨(by (try simp (disch := first | assumption | omega) only [cJ, gF]); repeat' (first | rfl | exact (Bool.or_eq_true _ _).mpr (.inr rfl) | refine (Bool.and_eq_true _ _).mpr ⟨?_, ?_⟩)), ?_⟩
        simp only [w1]
        exact ih (i + 1) h4 n4 _ _ _ _ _ _ _ _ _ _ (by omega) hp4 (m3.aM (kk id hid (by omega))) (by omega) f4
      · subst e4
        simp only [fgr, unOp, Nat.reduceAdd, gE]
        exact ⟨(by (try simp (disch := first | assumption | omega) only [cJ, gF]); repeat' (first | rfl | exact (Bool.or_eq_true _ _).mpr (.inr rfl) | refine (Bool.and_eq_true _ _).mpr ⟨?_, ?_⟩)), hR h4 n4 _ hr4⟩
      · subst e4
        simp only [fgr, unOp, Nat.reduceAdd, gE]
        exact ⟨(by (try simp (disch := first | assumption | omega) only [cJ, gF]); repeat' (first | rfl | exact (Bool.or_eq_true _ _).mpr (.inr rfl) | refine (Bool.and_eq_true _ _).mpr ⟨?_, ?_⟩)), hR h4 n4 _ hr4⟩
    | true =>
    simp only [tyr, bE, aR, gE]
    rw [aE (gS r3 va.ok)]
    simp only [fgr, builtin, bor, bE, bs3.cA t29, gE]
    by_cases c5 : (v.aJ.length : Nat) ≤ 2000
    rotate_left
    · have hfit : (oP A.bJ v && decide (kO ((A.made.take (i + 1)).map ptV) (ptV v) = 1)) = false := by simp [oP]; omega
      have c5' : ¬ (((v.aJ.length : Nat) : Int) ≤ 2000) := by omega
      simp only [decide_false, c5']
      refine bW ⟨rfl, ?_⟩
      simp only [tyr, aR, Nat.reduceAdd, gE]
      rw [aW (iL r3 va.ok)]
      simp only [bE, Nat.reduceAdd, gE]
      refine cU f3 (hYi (.bool false) H3 (n + 1) p3 (by omega) f3 (by rw [hfit])) fun v4 h4 n4 rr ww hn4 f4 ⟨hh, kk⟩ => ?_
      rcases hh with ⟨e4 | e4, hp4⟩ | ⟨e4 | e4, hr4⟩
      · subst e4
        simp only [fgr, bor, bZ, unOp, Nat.reduceAdd, gE]
        refine ⟨(by (try simp (disch := first | assumption | omega) only [cJ, gF]); repeat' (first | rfl | exact (Bool.or_eq_true _ _).mpr (.inr rfl) | refine (Bool.and_eq_true _ _).mpr ⟨?_, ?_⟩)), ?_⟩
        simp only [w1]
        exact ih (i + 1) h4 n4 _ _ _ _ _ _ _ _ _ _ (by omega) hp4 (m3.aM (kk id hid (by omega))) (by omega) f4
      · subst e4
        simp only [fgr, bor, bZ, unOp, Nat.reduceAdd, gE]
        refine ⟨(by (try simp (disch := first | assumption | omega) only [cJ, gF]); repeat' (first | rfl | exact (Bool.or_eq_true _ _).mpr (.inr rfl) | refine (Bool.and_eq_true _ _).mpr ⟨?_, ?_⟩)), ?_⟩
        simp only [w1]
        exact ih (i + 1) h4 n4 _ _ _ _ _ _ _ _ _ _ (by omega) hp4 (m3.aM (kk id hid (by omega))) (by omega) f4
      · subst e4
        simp only [fgr, unOp, Nat.reduceAdd, gE]
        exact ⟨(by (try simp (disch := first | assumption | omega) only [cJ, gF]); repeat' (first | rfl | exact (Bool.or_eq_true _ _).mpr (.inr rfl) | refine (Bool.and_eq_true _ _).mpr ⟨?_, ?_⟩)), hR h4 n4 _ hr4⟩
      · subst e4
        simp only [fgr, unOp, Nat.reduceAdd, gE]
        exact ⟨(by (try simp (disch := first | assumption | omega) only [cJ, gF]); repeat' (first | rfl | exact (Bool.or_eq_true _ _).mpr (.inr rfl) | refine (Bool.and_eq_true _ _).mpr ⟨?_, ?_⟩)), hR h4 n4 _ hr4⟩
    have c5' : (((v.aJ.length : Nat) : Int) ≤ 2000) := by omega
    have hfit : oP A.bJ v = true := by simp [oP, c1, c2, c3, c4, c5]
    simp only [decide_true, c5']
    refine bW ⟨rfl, ?_⟩
    simp only [tyr, aR, Nat.reduceAdd, gE]
    rw [aW (iL r3 va.ok)]
    simp only [tyr, aR, Nat.reduceAdd, gE]
    rw [aW (iL r3 va.ok)]
    have hlk : Rd (iS env 161 (.map id) (.agg (aS v.aI v.pn)) false) H3 (n + 1) [id] _ := m3.lookup (p := ptV v) va.ok.h
    simp only [Nat.reduceAdd, gE]
    rw [aW hlk]
    have ecnt : decide (((kO ((A.made.take (i + 1)).map ptV) (ptV v) : Nat) : Int) = 1) = decide (kO ((A.made.take (i + 1)).map ptV) (ptV v) = 1) := by
      rw [decide_eq_decide]; omega
    simp only [bor, bE, Nat.reduceAdd, ecnt, gE]
    refine cU f3 (hYi (.bool (decide (kO ((A.made.take (i + 1)).map ptV) (ptV v) = 1))) H3 (n + 1) p3 (by omega) f3 (by rw [hfit, Bool.true_and])) fun v4 h4 n4 rr ww hn4 f4 ⟨hh, kk⟩ => ?_
    rcases hh with ⟨e4 | e4, hp4⟩ | ⟨e4 | e4, hr4⟩
    · subst e4
      simp only [fgr, bor, bZ, unOp, Nat.reduceAdd, gE]
      refine ⟨(by (try simp (disch := first | assumption | omega) only [cJ, gF]); repeat' (first | rfl | exact (Bool.or_eq_true _ _).mpr (.inr rfl) | refine (Bool.and_eq_true _ _).mpr ⟨?_, ?_⟩)), ?_⟩
      simp only [w1]
      exact ih (i + 1) h4 n4 _ _ _ _ _ _ _ _ _ _ (by omega) hp4 (m3.aM (kk id hid (by omega))) (by omega) f4
    · subst e4
      simp only [fgr, bor, bZ, unOp, Nat.reduceAdd, gE]
      refine ⟨(by (try simp (disch := first | assumption | omega) only [cJ, gF]); repeat' (first | rfl | exact (Bool.or_eq_true _ _).mpr (.inr rfl) | refine (Bool.and_eq_true _ _).mpr ⟨?_, ?_⟩)), ?_⟩
      simp only [w1]
      exact ih (i + 1) h4 n4 _ _ _ _ _ _ _ _ _ _ (by omega) hp4 (m3.aM (kk id hid (by omega))) (by omega) f4
    · subst e4
      simp only [fgr, unOp, Nat.reduceAdd, gE]
      exact ⟨(by (try simp (disch := first | assumption | omega) only [cJ, gF]); repeat' (first | rfl | exact (Bool.or_eq_true _ _).mpr (.inr rfl) | refine (Bool.and_eq_true _ _).mpr ⟨?_, ?_⟩)), hR h4 n4 _ hr4⟩
    · subst e4
      simp only [fgr, unOp, Nat.reduceAdd, gE]
      exact ⟨(by (try simp (disch := first | assumption | omega) only [cJ, gF]); repeat' (first | rfl | exact (Bool.or_eq_true _ _).mpr (.inr rfl) | refine (Bool.and_eq_true _ _).mpr ⟨?_, ?_⟩)), hR h4 n4 _ hr4⟩
theorem KB (Q : dI) (ks : List Kf) (Y mv sv : a9) (c id a b n0 : Nat) (A : App) (hid : n0 ≤ id) (hc : c < n0) (hb : b ≤ n0)
    (P : Nat → Hp → Prop) (R : Hp → Prop)
    (hP : ∀ k h, P k h → Row h c (aX A mv sv) ∧ jT h a b A mv sv)
    (hst : ∀ k h h', P k h → (∀ j, j < n0 → h' j = h j) → P k h')
    (hY : ∀ (k : Nat) (hk : k < A.bR.length) (w : a9) (h : Hp) (n : Nat), P (A.made.length + k) h → n0 ≤ n → aY h n → w = .bool (OV A.bR k) → Wp (jQ env (aV env) Y [ptA (ptS A.bR[k]), w]) h n fun v' h' n' => ((yes true v' ∧ P (A.made.length + k + 1) h') ∨ (yes false v' ∧ R h')) ∧ ∀ j, n0 ≤ j → j < n → h' j = h j)
    (hT : ∀ (h : Hp) (n : Nat) (tm : List a9), P (A.made.length + A.bR.length) h → cV env 113 none Q ks (.exit 2) tm h n)
    (hR : ∀ (h : Hp) (n : Nat) (tm : List a9), R h → cV env 113 none Q ks .ret tm h n) :
    ∀ (m i : Nat) (h : Hp) (n : Nat) (x1 x5 x6 x8 x11 x12 x13 x14 x63 x70 x89 : a9), i + m = A.bR.length → P (A.made.length + i) h → Pm h id ((A.bR.take i).map ptS) → id < n → aY h n →
      Run env 113 none Q (.loop C6) ks (Y :: x1 :: a9.aA :: .map id :: a9.aA :: x5 :: x6 :: a9.aA :: x8 :: a9.aA :: a9.aA :: x11 :: x12 :: x13 :: x14 :: a9.aA :: a9.aA :: a9.aA :: a9.aA :: a9.aA :: a9.aA :: a9.aA :: a9.aA :: a9.aA :: a9.aA :: a9.aA :: a9.aA :: a9.aA :: a9.aA :: a9.aA :: a9.aA :: a9.aA :: a9.aA :: a9.aA :: a9.aA :: a9.aA :: a9.aA :: a9.aA :: a9.aA :: a9.aA :: a9.aA :: a9.aA :: a9.aA :: a9.aA :: a9.aA :: a9.aA :: a9.aA :: a9.aA :: a9.aA :: a9.aA :: a9.aA :: a9.aA :: a9.aA :: a9.aA :: a9.aA :: a9.aA :: a9.aA :: a9.aA :: a9.aA :: a9.aA :: a9.aA :: a9.aA :: a9.aA :: x63 :: a9.aA :: a9.aA :: a9.aA :: sv :: .int .i64 (A.bR.length : Nat) :: .int .i64 (i : Nat) :: x70 :: a9.aA :: a9.aA :: a9.aA :: a9.aA :: a9.aA :: a9.aA :: a9.aA :: a9.aA :: a9.aA :: a9.aA :: a9.aA :: a9.aA :: a9.aA :: a9.aA :: a9.aA :: a9.aA :: a9.aA :: a9.aA :: x89 :: a9.aA :: []) h n := by
  intro m
  induction m with
  | zero =>
    intro i h n x1 x5 x6 x8 x11 x12 x13 x14 x63 x70 x89 hm hp hmp hin hf
    have : i = A.bR.length := by omega
    subst this
    rw [bO]
    have hcc : ¬ (((A.bR.length : Nat) : Int) < ((A.bR.length : Nat) : Int)) := by omega
    simp only [C6, bC, Try.f113, Option.getD_some, fgr, bor, List.getD_cons_zero, List.getD_cons_succ, hcc, gE]
    exact hT h n _ hp
  | succ m ih =>
    intro i h n x1 x5 x6 x8 x11 x12 x13 x14 x63 x70 x89 hm hp hmp hin hf
    obtain ⟨hrc, ha⟩ := hP _ h hp
    have hil : i < A.bR.length := by omega
    have hcc : (((i : Nat) : Int) < ((A.bR.length : Nat) : Int)) := by omega
    have w1 : IntKind.i64.wrap (((i : Nat) : Int) + 1) = ((i + 1 : Nat) : Int) := by rw [w64 (by omega) (by have := ha.sl; omega)]; omega
    obtain ⟨ok, hld⟩ := ha.s.all (n := n) hil
    have hge : A.bR[i]? = some A.bR[i] := List.getElem?_eq_getElem hil
    have hmay : OV A.bR i = decide (kO ((A.bR.take (i + 1)).map ptS) (ptS A.bR[i]) = 1) := by unfold OV; rw [hge]
    have htk : (A.bR.take (i + 1)).map ptS = (A.bR.take i).map ptS ++ [ptS A.bR[i]] := by rw [hU hil, List.map_append]; rfl
    have hYi := hY i hil
    rw [hmay] at hYi
    generalize A.bR[i] = v at *
    rw [bO]
    simp only [C6, bC, Try.f113, Option.getD_some, fgr, bor, List.getD_cons_zero, List.getD_cons_succ, hcc, gE]
    rw [aE (ha.s.idx hil)]
    simp only [gE]
    rw [aE hld]
    simp only [gE]
    rw [bU zE rfl]
    simp only [cel, gE]
    refine cK (v := .agg (eJ v)) zE rfl (lM ok) (sO v) hf fun H1 r1 p1 f1 => ?_
    replace r1 : Row H1 n (eJ v) := r1
    have m1 : Pm H1 id ((A.bR.take i).map ptS) := hmp.aM (p1 id (by omega))
    have hlen : ((A.bR.take i).map ptS).length ≤ 1000000 := by rw [List.length_map, List.length_take]; have := ha.sl; omega
    simp only [bI, fgr, bP, aF]
    refine A4 (act := Ins.rT) ai1 ?_
    unfold Ins.rT
    refine HY (p := ptS v) rfl rfl rfl r1 (N2 ok) ok.h m1 (by omega) fun H3 k3 m3 => ?_
    have e3 : ∀ j, j < n0 → H3 j = h j := fun j hj => by rw [k3 j (by omega), p1 j (by omega)]
    have p3 : P (A.made.length + i) H3 := hst _ h H3 hp e3
    have r3 : Row H3 n (eJ v) := r1.aM (k3 n (by omega))
    have f3 : aY H3 (n + 1) := fun j hj => by rw [k3 j (by omega)]; exact f1 j hj
    rw [← htk] at m3
    simp only [bI, put, Ins.vX]
    refine bW ⟨rfl, ?_⟩
    simp only [tyr, aR, Nat.reduceAdd, gE]
    rw [aW (wV r3 ok)]
    simp only [tyr, aR, Nat.reduceAdd, gE]
    rw [aW (wV r3 ok)]
    have hlk : Rd (iS env 161 (.map id) (.agg (aS v.aI v.pn)) false) H3 (n + 1) [id] _ := m3.lookup (p := ptS v) ok.h
    simp only [Nat.reduceAdd, gE]
    rw [aW hlk]
    have ecnt : decide (((kO ((A.bR.take (i + 1)).map ptS) (ptS v) : Nat) : Int) = 1) = decide (kO ((A.bR.take (i + 1)).map ptS) (ptS v) = 1) := by
      rw [decide_eq_decide]; omega
    simp only [bor, Nat.reduceAdd, ecnt, gE]
    refine cU f3 (hYi (.bool (decide (kO ((A.bR.take (i + 1)).map ptS) (ptS v) = 1))) H3 (n + 1) p3 (by omega) f3 rfl) fun v4 h4 n4 rr ww hn4 f4 ⟨hh, kk⟩ => ?_
    rcases hh with ⟨e4 | e4, hp4⟩ | ⟨e4 | e4, hr4⟩
    · subst e4
      simp only [fgr, bor, bZ, unOp, Nat.reduceAdd, gE]
      refine ⟨(by (try simp (disch := first | assumption | omega) only [cJ, gF]); repeat' (first | rfl | exact (Bool.or_eq_true _ _).mpr (.inr rfl) | refine (Bool.and_eq_true _ _).mpr ⟨?_, ?_⟩)), ?_⟩
      simp only [w1]
      exact ih (i + 1) h4 n4 _ _ _ _ _ _ _ _ _ _ _ (by omega) hp4 (m3.aM (kk id hid (by omega))) (by omega) f4
    · subst e4
      simp only [fgr, bor, bZ, unOp, Nat.reduceAdd, gE]
      refine ⟨(by (try simp (disch := first | assumption | omega) only [cJ, gF]); repeat' (first | rfl | exact (Bool.or_eq_true _ _).mpr (.inr rfl) | refine (Bool.and_eq_true _ _).mpr ⟨?_, ?_⟩)), ?_⟩
      simp only [w1]
      exact ih (i + 1) h4 n4 _ _ _ _ _ _ _ _ _ _ _ (by omega) hp4 (m3.aM (kk id hid (by omega))) (by omega) f4
    · subst e4
      simp only [fgr, unOp, Nat.reduceAdd, gE]
      exact ⟨(by (try simp (disch := first | assumption | omega) only [cJ, gF]); repeat' (first | rfl | exact (Bool.or_eq_true _ _).mpr (.inr rfl) | refine (Bool.and_eq_true _ _).mpr ⟨?_, ?_⟩)), hR h4 n4 _ hr4⟩
    · subst e4
      simp only [fgr, unOp, Nat.reduceAdd, gE]
      exact ⟨(by (try simp (disch := first | assumption | omega) only [cJ, gF]); repeat' (first | rfl | exact (Bool.or_eq_true _ _).mpr (.inr rfl) | refine (Bool.and_eq_true _ _).mpr ⟨?_, ?_⟩)), hR h4 n4 _ hr4⟩
theorem f113 (Y mv sv : a9) (c a b : Nat) (A : App) (h : Hp) (n : Nat) (hc : c < n) (hb : b ≤ n) (hf : aY h n)
    (P : Nat → Hp → Prop) (R : Hp → Prop) (h0 : P 0 h)
    (hP : ∀ k h, P k h → Row h c (aX A mv sv) ∧ jT h a b A mv sv)
    (hst : ∀ k h h', P k h → (∀ j, j < n → h' j = h j) → P k h')
    (hsr : ∀ h h', R h → (∀ j, j < n → h' j = h j) → R h')
    (hY1 : ∀ (k : Nat) (hk : k < A.made.length) (w : a9) (h' : Hp) (n' : Nat), P k h' → n ≤ n' → aY h' n' → w = .bool (KA A.bJ A.made k) → Wp (jQ env (aV env) Y [ptA (ptV A.made[k]), w]) h' n' fun v1 h1 n1 => ((yes true v1 ∧ P (k + 1) h1) ∨ (yes false v1 ∧ R h1)) ∧ ∀ j, n ≤ j → j < n' → h1 j = h' j)
    (hY2 : ∀ (k : Nat) (hk : k < A.bR.length) (w : a9) (h' : Hp) (n' : Nat), P (A.made.length + k) h' → n ≤ n' → aY h' n' → w = .bool (OV A.bR k) → Wp (jQ env (aV env) Y [ptA (ptS A.bR[k]), w]) h' n' fun v1 h1 n1 => ((yes true v1 ∧ P (A.made.length + k + 1) h1) ∨ (yes false v1 ∧ R h1)) ∧ ∀ j, n ≤ j → j < n' → h1 j = h' j) :
    Wp (bH env (aV env) 113 [Y, .ptr c 0]) h n fun v' h' n' => v' = .tup [] ∧ (P (A.made.length + A.bR.length) h' ∨ R h') := by
  obtain ⟨hrc, ha⟩ := hP 0 h h0
  refine aU aq4 am0 ?_
  simp only [PQ, Try.f113, Option.getD_some, List.replicate, tyr, fgr, opt, aR, Nat.reduceAdd, Nat.reduceSub, pZ, opt, oG, gE]
  obtain ⟨H1, hH1⟩ : ∃ H1, H1 = upd h n (some (Blk.map [] 0)) := ⟨_, rfl⟩
  rw [← hH1]
  have o1 : ∀ j, j < n → H1 j = h j := fun j hj => by rw [hH1, aH _ _ (by omega)]
  have m1 : Pm H1 n [] := Pm.new (by rw [hH1, aO])
  have f1 : aY H1 (n + 1) := by rw [hH1]; exact hf.new
  clear hH1
  have p1 := hst 0 h H1 h0 o1
  obtain ⟨hrc1, ha1⟩ := hP 0 H1 p1
  rw [aE (mY hrc1 ha1.b)]
  simp only [fgr, builtin, ha1.m.len, gE]
  refine KC _ _ Y mv sv c n a b n A (Nat.le_refl _) hc hb P R hP hst hsr hY1 ?_ ?_ A.made.length 0 H1 (n + 1) _ _ _ _ _ _ _ _ _ _ (by omega) p1 m1 (by omega) f1
  · intro h2 n2 x5 x6 x8 x14 x63 x67 x68 x69 x70 x89 p2 m2 hn2 f2
    simp only [builtin, gE]
    obtain ⟨H3, w3, k3, m3⟩ := m2.clear (n := n2)
    rw [cR w3]
    have p3 := hst _ h2 H3 p2 fun j hj => k3 j (by omega)
    have f3 : aY H3 n2 := fun j hj => by rw [k3 j (by omega)]; exact f2 j hj
    obtain ⟨hrc3, ha3⟩ := hP _ H3 p3
    simp only [tyr, fgr, aR, gE]
    rw [aE (vP hrc3 ha3.b)]
    simp only [fgr, builtin, ha3.s.len, gE]
    refine KB _ _ Y mv sv c n a b n A (Nat.le_refl _) hc hb P R hP hst hY2 ?_ ?_ A.bR.length 0 H3 n2 _ _ _ _ _ _ _ _ _ _ _ (by omega) p3 m3 hn2 f3
    · intro h4 n4 tm p4
      simp only [bI, true_and]
      exact .inl p4
    · intro h4 n4 tm r4
      simp only [bI, true_and]
      exact .inr r4
  · intro h4 n4 tm r4
    simp only [bI, true_and]
    exact .inr r4
def bs (b : Bool) (v : a9) : a9 := match b with
  | true => v
  | false => undef
section
variable {E : Env} {fn : FuncId} {rnd : Option Nat} {Q : dI} {ks : List Kf} {tm : List a9} {h : Hp} {n : Nat} {ops rest : List Oper} {d : Option Tmp}
theorem j9 {b : Bool} {op : Op} {v : a9} (hr : b = true → Wp (execOp E (aV E) tm op) h n fun v' h' n' => v' = v ∧ h' = h ∧ n' = n) (hq : Ops E fn rnd Q ks ops rest (bP tm d (bs b v)) h n) : OpG E fn rnd Q ks ops rest d tm op true (.fU b) h n := by
  cases b with
  | true => rw [OD]; exact dA (hr rfl) hq
  | false => rw [OE]; exact hq
theorem nI {b m : Bool} : OpV E fn rnd Q ks ops rest d tm (bE (.bool b) (bs b (.bool m)) (.bool false)) h n ↔ Ops E fn rnd Q ks ops rest (bP tm d (.bool (b && m))) h n := by
  cases b <;> simp only [bs, bE, branch, BU, kQ, Bool.true_and, Bool.false_and]
end
theorem kG {A : App} {mv sv : a9} (h1 : bB mv = true) (h2 : bB sv = true) : (aX A mv sv).all bB = true := by
  unfold aX
  rw [List.all_cons, List.all_append]
  simp only [List.all_cons, List.all_nil, h1, h2, Bool.and_true, Bool.true_and]
  rw [List.all_map]
  simp [u8, bB]
theorem f101 (A : App) (mv sv : a9) (h : Hp) (n : Nat) (hf : aY h n) : Wp (bH env (aV env) 101 [.agg (aX A mv sv)]) h n fun v' h' n' => v' = .fn (.func 113) [] [.ptr n 0] ∧ Row h' n (aX A mv sv) ∧ (∀ j, j ≠ n → h' j = h j) ∧ n' = n + 1 := by
  refine aU ar3 am9 ?_
  simp only [PZ, Try.f101, Option.getD_some, List.replicate, Nat.reduceSub, gE]
  refine cG (v := .agg (aX A mv sv)) mG rfl hf fun H1 r1 o1 f1 => ?_
  simp only [fgr, gE]
  exact ⟨r1, o1⟩
def xX (A : App) (k : Nat) : Bool := if k < A.made.length then KA A.bJ A.made k else OV A.bR (k - A.made.length)
def PJ (A : App) : Bool := xA A.bJ && lV A.eD && lV A.left && decide (A.made.length ≤ 5000) && decide (A.bR.length ≤ 5000)
def iU (A : App) (k : Nat) : Bool := PJ A && (List.range k).all (xX A)
def mC (A : App) : Bool := iU A (A.made.length + A.bR.length)
theorem U3 (A : App) : iU A 0 = PJ A := by simp [iU]
end Go.Am.Ytlgebaofkolkoaa
set_option linter.unusedSimpArgs false
set_option linter.unusedVariables false
set_option linter.defProp false
set_option maxRecDepth 10000
namespace Go.Am.Ytlgebaofkolkoaa
open Go Go.Am Go.Proofs
theorem IX (A : App) (k : Nat) : iU A (k + 1) = (iU A k && xX A k) := by
  unfold iU
  rw [List.range_succ, List.all_append]
  simp [Bool.and_assoc]
theorem Q3 {A : App} {k : Nat} (h : iU A k = false) (hk : k ≤ A.made.length + A.bR.length) : mC A = false := by
  unfold mC
  obtain ⟨d, hd⟩ := Nat.exists_eq_add_of_le hk
  rw [hd]
  clear hd hk
  induction d with
  | zero => exact h
  | succ d ih => rw [← Nat.add_assoc, IX, ih]; rfl
noncomputable def L67 (tm : List a9) : kS := { state := .ready, pending := none, fn := 67, tmps := tm, params := [33, 34], assign := NL, body := NG }
theorem f67 (A : App) (mv sv : a9) (a b : Nat) (h : Hp) (n : Nat) (ha : jT h a b A mv sv) (hb : b ≤ n) (hf : aY h n) : Wp (bH env (aV env) 67 [.agg (aX A mv sv)]) h n fun v' h' n' => v' = .int .i64 (if mC A then 0 else 200) ∧ Old h h' n := by
  refine aU aM6 aA8 ?_
  simp only [YZ, Try.f67, Option.getD_some, List.replicate, Nat.reduceSub, gE]
  refine cG (v := .agg (aX A mv sv)) mG rfl hf fun H1 r1 o1 f1 => ?_
  replace r1 : Row H1 n (aX A mv sv) := r1
  have a1 := ha.aM (h' := H1) fun j _ q => o1 j (by omega)
  simp only [tyr, fgr, aR, gE]
  rw [aE (vQ r1)]
  simp only [hkr, gE]
  refine dA (f99 A.bJ H1 (n + 1)) ?_
  obtain ⟨b1, hb1⟩ : ∃ b, b = xA A.bJ := ⟨_, rfl⟩
  rw [← hb1]
  simp only [gE]
  refine j9 (v := .ptr n 35) (fun _ => aT.2 ⟨rfl, rfl, rfl⟩) ?_
  simp only [bI, bP, put, nth, List.getElem?_cons_succ, List.getElem?_cons_zero]
  refine j9 (v := .int .i64 A.eD) (fun hb => by subst hb; exact (CV r1 ha.b).wp) ?_
  simp only [bI, bP, put, nth, List.getElem?_cons_succ, List.getElem?_cons_zero]
  refine j9 (v := .bool (lV A.eD)) (fun hb => by subst hb; exact f100 A.eD H1 (n + 1)) ?_
  simp only [nI, gE]
  obtain ⟨b2, hb2⟩ : ∃ b, b = (b1 && lV A.eD) := ⟨_, rfl⟩
  rw [← hb2]
  refine j9 (v := .ptr n 36) (fun _ => aT.2 ⟨rfl, rfl, rfl⟩) ?_
  simp only [bI, bP, put, nth, List.getElem?_cons_succ, List.getElem?_cons_zero]
  refine j9 (v := .int .i64 A.left) (fun hb => by subst hb; exact (CU r1 ha.b).wp) ?_
  simp only [bI, bP, put, nth, List.getElem?_cons_succ, List.getElem?_cons_zero]
  refine j9 (v := .bool (lV A.left)) (fun hb => by subst hb; exact f100 A.left H1 (n + 1)) ?_
  simp only [nI, gE]
  obtain ⟨b3, hb3⟩ : ∃ b, b = (b2 && lV A.left) := ⟨_, rfl⟩
  rw [← hb3]
  refine j9 (v := .ptr n 33) (fun _ => aT.2 ⟨rfl, rfl, rfl⟩) ?_
  simp only [bI, bP, put, nth, List.getElem?_cons_succ, List.getElem?_cons_zero]
  refine j9 (v := mv) (fun hb => by subst hb; exact (mY r1 ha.b).wp) ?_
  simp only [bI, bP, put, nth, List.getElem?_cons_succ, List.getElem?_cons_zero]
  refine j9 (v := .int .i64 (A.made.length : Nat)) (fun hb => by subst hb; show Wp (cA env [43] mv) _ _ _; rw [a1.m.len]; exact aT.2 ⟨rfl, rfl, rfl⟩) ?_
  simp only [bI, bP, put, nth, List.getElem?_cons_succ, List.getElem?_cons_zero]
  refine j9 (v := .bool (decide (((A.made.length : Nat) : Int) ≤ 5000))) (fun hb => by subst hb; exact aT.2 ⟨rfl, rfl, rfl⟩) ?_
  simp only [nI, gE]
  obtain ⟨b4, hb4⟩ : ∃ b, b = (b3 && decide (((A.made.length : Nat) : Int) ≤ 5000)) := ⟨_, rfl⟩
  rw [← hb4]
  refine j9 (v := .ptr n 34) (fun _ => aT.2 ⟨rfl, rfl, rfl⟩) ?_
  simp only [bI, bP, put, nth, List.getElem?_cons_succ, List.getElem?_cons_zero]
  refine j9 (v := sv) (fun hb => by subst hb; exact (vP r1 ha.b).wp) ?_
  simp only [bI, bP, put, nth, List.getElem?_cons_succ, List.getElem?_cons_zero]
  refine j9 (v := .int .i64 (A.bR.length : Nat)) (fun hb => by subst hb; show Wp (cA env [44] sv) _ _ _; rw [a1.s.len]; exact aT.2 ⟨rfl, rfl, rfl⟩) ?_
  simp only [bI, bP, put, nth, List.getElem?_cons_succ, List.getElem?_cons_zero]
  refine j9 (v := .bool (decide (((A.bR.length : Nat) : Int) ≤ 5000))) (fun hb => by subst hb; exact aT.2 ⟨rfl, rfl, rfl⟩) ?_
  simp only [nI, gE]
  have hb5 : (b4 && decide (((A.bR.length : Nat) : Int) ≤ 5000)) = iU A 0 := by
    rw [U3, hb4, hb3, hb2, hb1]
    unfold PJ
    have q1 : decide (((A.made.length : Nat) : Int) ≤ 5000) = decide (A.made.length ≤ 5000) := by rw [decide_eq_decide]; omega
    have q2 : decide (((A.bR.length : Nat) : Int) ≤ 5000) = decide (A.bR.length ≤ 5000) := by rw [decide_eq_decide]; omega
    rw [q1, q2]
  rw [hb5]
  rw [bU ti4 rfl]
  simp only [cel, gE]
  refine cK (v := .bool (iU A 0)) ti4 rfl rfl rfl f1 fun H2 r2 o2 f2 => ?_
  replace r2 : Row H2 (n + 1) [.bool (iU A 0)] := r2
  have r12 := r1.aM (o2 n (by omega))
  simp only [fgr, gE]
  rw [aE (mF r12 ha.b)]
  simp only [hkr, gE]
  refine aQ f2 (f101 A mv sv H2 (n + 1 + 1) f2) fun v3 h3 n3 hn3 f3 ⟨e3, r3, o3, en3⟩ => ?_
  subst e3; subst en3
  simp only [bI, fgr, bP, put, aF]
  refine lD (g := 113) (first := []) (cap := [.ptr (n + 1 + 1) 0]) rfl rfl ?_
  let TM : List a9 := (.agg (aX A mv sv) :: .ptr n 0 :: .int .i64 0 :: .ptr (n + 1) 0 :: a9.aA :: undef :: a9.aA :: a9.aA :: a9.aA :: a9.aA :: a9.aA :: a9.aA :: a9.aA :: a9.aA :: a9.aA :: a9.aA :: a9.aA :: a9.aA :: a9.aA :: a9.aA :: a9.aA :: a9.aA :: a9.aA :: a9.aA :: a9.aA :: a9.aA :: a9.aA :: a9.aA :: a9.aA :: a9.aA :: a9.aA :: a9.aA :: .fn (.func 113) [] [.ptr (n + 1 + 1) 0] :: a9.aA :: undef :: a9.aA :: a9.aA :: a9.aA :: a9.aA :: a9.aA :: undef :: a9.aA :: undef :: [])
  obtain ⟨H4, hH4⟩ : ∃ H4, H4 = upd h3 (n + 1 + 1 + 1) (some (Blk.loop (L67 TM))) := ⟨_, rfl⟩
  show Wp (fX env (aV env) 113 [a9.fn (Fn.yield (n + 1 + 1 + 1)) [] [], a9.ptr (n + 1 + 1) 0]) (upd h3 (n + 1 + 1 + 1) (some (Blk.loop (L67 TM)))) (n + 1 + 1 + 1 + 1) _
  rw [ak4, ← hH4]
  have f4 : aY H4 (n + 1 + 1 + 1 + 1) := by rw [hH4]; exact f3.new
  have o4 : ∀ j, j ≠ n + 1 + 1 + 1 → H4 j = h3 j := fun j hj => by rw [hH4, aH _ _ hj]
  have g4 : H4 (n + 1 + 1 + 1) = some (.loop (L67 TM)) := by rw [hH4, aO]
  clear hH4
  have old4 : ∀ j, j < n → H4 j = h j := fun j hj => by rw [o4 j (by omega), o3 j (by omega), o2 j (by omega), o1 j (by omega)]
  have a4 : jT H4 a b A mv sv := ha.aM fun j _ q => old4 j (by omega)
  have r4 : Row H4 (n + 1) [.bool (iU A 0)] := (r2.aM (o3 _ (by omega))).aM (o4 _ (by omega))
  have rc4 : Row H4 (n + 1 + 1) (aX A mv sv) := r3.aM (o4 _ (by omega))
  have step : ∀ (k : Nat) (w pv : a9) (h1 : Hp) (n1 : Nat), k < A.made.length + A.bR.length → Row h1 (n + 1) [.bool (iU A k)] → h1 (n + 1 + 1 + 1) = some (.loop (L67 TM)) → (∀ j, j < n + 1 + 1 + 1 + 1 → j ≠ n + 1 → j ≠ n + 1 + 1 + 1 → h1 j = H4 j) → n + 1 + 1 + 1 + 1 ≤ n1 → aY h1 n1 → w = .bool (xX A k) →
      Wp (jQ env (aV env) (.fn (.yield (n + 1 + 1 + 1)) [] []) [pv, w]) h1 n1 fun v' h' n' => ((yes true v' ∧ Row h' (n + 1) [.bool (iU A (k + 1))] ∧ h' (n + 1 + 1 + 1) = some (.loop (L67 TM)) ∧ (∀ j, j < n + 1 + 1 + 1 + 1 → j ≠ n + 1 → j ≠ n + 1 + 1 + 1 → h' j = H4 j)) ∨
        (yes false v' ∧ mC A = false ∧ Row h' (n + 1) [.bool false] ∧ (∃ l, h' (n + 1 + 1 + 1) = some (.loop l) ∧ l.state = .done ∧ l.pending = some (.exit 0)) ∧ (∀ j, j < n + 1 + 1 + 1 + 1 → j ≠ n + 1 → j ≠ n + 1 + 1 + 1 → h' j = H4 j))) ∧ ∀ j, n + 1 + 1 + 1 + 1 ≤ j → j < n1 → h' j = h1 j := by
    intro k w pv h1 n1 hk hr1 hlo hkp hn1 hf1 hw
    refine nA hlo rfl rfl ?_
    simp only [NL, List.getD_cons_zero, lT, List.zip_cons_cons, List.zip_nil_left, L67, TM, cE, Try.f67, Option.getD_some, fgr, gE]
    refine ⟨_, hlo, rfl, ?_⟩
    obtain ⟨h2, hh2⟩ : ∃ h2, h2 = upd h1 (n + 1 + 1 + 1) (some (Blk.loop { L67 TM with state := .busy })) := ⟨_, rfl⟩
    have ho2 : ∀ j, j ≠ n + 1 + 1 + 1 → h2 j = h1 j := fun j hj => by rw [hh2, aH _ _ hj]
    have hlo2 : h2 (n + 1 + 1 + 1) = some (.loop { L67 TM with state := .busy }) := by rw [hh2, aO]
    have hf2 : aY h2 n1 := by rw [hh2]; exact hf1.upd (by omega)
    show Run env 67 _ _ _ _ _ (upd h1 (n + 1 + 1 + 1) (some (Blk.loop { L67 TM with state := .busy }))) n1
    rw [← hh2]
    clear hh2
    obtain ⟨e0, hr2⟩ := hr1.aM (ho2 (n + 1) (by omega))
    simp only [NG, List.getD_cons_zero, cE, Try.f67, Option.getD_some, fgr, gE]
    subst hw
    have rd2 : Rd (load env 4 (.ptr (n + 1) 0)) h2 n1 [n + 1] (.bool (iU A k)) := Row.one (cs := [.bool (iU A k)]) (off := 0) ⟨e0, hr2⟩ rfl ti4 rfl
    rw [aE rd2]
    simp only [gE]
    refine j9 (v := .bool (xX A k)) (fun _ => aT.2 ⟨rfl, rfl, rfl⟩) ?_
    simp only [nI, gE]
    rw [← IX]
    rw [cR (Row.write (v := .bool (iU A (k + 1))) hr2 ti4 rfl (by show 0 + 1 ≤ 1; omega) rfl)]
    obtain ⟨h3', hh3⟩ : ∃ h3', h3' = upd h2 (n + 1) (some (.row (.l [.bool (iU A (k + 1))]) e0)) := ⟨_, rfl⟩
    show Ops _ _ _ _ _ _ _ _ (upd h2 (n + 1) (some (.row (.l [.bool (iU A (k + 1))]) e0))) _
    rw [← hh3]
    have r3' : Row h3' (n + 1) [.bool (iU A (k + 1))] := ⟨e0, by rw [hh3, aO]⟩
    have o3' : ∀ j, j ≠ n + 1 → h3' j = h2 j := fun j hj => by rw [hh3, aH _ _ hj]
    clear hh3
    have hlo3 : h3' (n + 1 + 1 + 1) = some (.loop { L67 TM with state := .busy }) := (o3' _ (by omega)).trans hlo2
    simp only [fgr, gE]
    rw [aE (r3'.one (off := 0) rfl ti4 rfl)]
    cases hfb : iU A (k + 1) with
    | true =>
      rw [hfb] at r3'
      simp only [fgr, unOp, gE]
      refine ⟨_, hlo3, .inl ⟨.inl rfl, (r3'.upd (by omega)), aO _ _ _, fun j h1 h2 h3 => ?_⟩, fun j h1 h2 => ?_⟩
      · rw [aH _ _ h3, o3' j h2, ho2 j h3, hkp j h1 h2 h3]
      · rw [aH _ _ (by omega), o3' j (by omega), ho2 j (by omega)]
    | false =>
      rw [hfb] at r3'
      simp only [fgr, unOp, gE]
      refine ⟨_, hlo3, .inr ⟨.inl rfl, Q3 hfb (by omega), (r3'.upd (by omega)), ⟨_, aO _ _ _, rfl, rfl⟩, fun j h1 h2 h3 => ?_⟩, fun j h1 h2 => ?_⟩
      · rw [aH _ _ h3, o3' j h2, ho2 j h3, hkp j h1 h2 h3]
      · rw [aH _ _ (by omega), o3' j (by omega), ho2 j (by omega)]
  have lo4 : ∀ (h1 h2 : Hp), (∀ j, j < n + 1 + 1 + 1 + 1 → h2 j = h1 j) → (∀ j, j < n + 1 + 1 + 1 + 1 → j ≠ n + 1 → j ≠ n + 1 + 1 + 1 → h1 j = H4 j) → ∀ j, j < n + 1 + 1 + 1 + 1 → j ≠ n + 1 → j ≠ n + 1 + 1 + 1 → h2 j = H4 j := fun h1 h2 q k j q1 q2 q3 => by rw [q j q1, k j q1 q2 q3]
  refine cP (f113 (.fn (.yield (n + 1 + 1 + 1)) [] []) mv sv (n + 1 + 1) a b A H4 (n + 1 + 1 + 1 + 1) (by omega) (by omega) f4
    (fun k h1 => Row h1 (n + 1) [.bool (iU A k)] ∧ h1 (n + 1 + 1 + 1) = some (.loop (L67 TM)) ∧ ∀ j, j < n + 1 + 1 + 1 + 1 → j ≠ n + 1 → j ≠ n + 1 + 1 + 1 → h1 j = H4 j)
    (fun h1 => mC A = false ∧ Row h1 (n + 1) [.bool false] ∧ (∃ l, h1 (n + 1 + 1 + 1) = some (.loop l) ∧ l.state = .done ∧ l.pending = some (.exit 0)) ∧ ∀ j, j < n + 1 + 1 + 1 + 1 → j ≠ n + 1 → j ≠ n + 1 + 1 + 1 → h1 j = H4 j)
    ⟨r4, g4, fun j _ _ _ => rfl⟩ ?_ ?_ ?_ ?_ ?_) ?_
  · rintro k h1 ⟨q1, q2, q3⟩
    exact ⟨rc4.aM (q3 _ (by omega) (by omega) (by omega)), a4.aM fun j _ q => q3 j (by omega) (by omega) (by omega)⟩
  · rintro k h1 h2 ⟨q1, q2, q3⟩ q
    exact ⟨q1.aM (q _ (by omega)), (q _ (by omega)).trans q2, lo4 h1 h2 q q3⟩
  · rintro h1 h2 ⟨q0, q1, ⟨l, q2, q4, q5⟩, q3⟩ q
    exact ⟨q0, q1.aM (q _ (by omega)), ⟨l, (q _ (by omega)).trans q2, q4, q5⟩, lo4 h1 h2 q q3⟩
  · rintro k hk w h1 n1 ⟨q1, q2, q3⟩ hn1 hf1 hw
    exact step k w _ h1 n1 (by omega) q1 q2 q3 hn1 hf1 (by rw [hw]; unfold xX; rw [if_pos hk])
  · rintro k hk w h1 n1 ⟨q1, q2, q3⟩ hn1 hf1 hw
    exact step (A.made.length + k) w _ h1 n1 (by omega) q1 q2 q3 hn1 hf1 (by rw [hw]; unfold xX; rw [if_neg (by omega), Nat.add_sub_cancel_left])
  · rintro v5 h5 n5 ⟨e5, hh⟩
    rcases hh with ⟨q1, q2, q3⟩ | ⟨q0, q1, ⟨l, q2, q4, q5⟩, q3⟩
    · refine ⟨_, q2, (fun q => by cases q), .normal, rfl, ?_⟩
      replace q1 : Row h5 (n + 1) [.bool (mC A)] := q1
      simp only [gE]
      rw [aE ((q1.upd (i := n + 1 + 1 + 1) (by omega)).one (off := 0) rfl ti4 rfl)]
      have old5 : ∀ (b : Option Blk), Old h (upd h5 (n + 1 + 1 + 1) b) n := fun b j hj => by rw [aH _ _ (by omega), q3 j (by omega) (by omega) (by omega), old4 j hj]
      cases hcb : mC A with
      | true => simp only [fgr, unOp, ↓reduceIte, gE]; exact old5 _
      | false => simp only [fgr, unOp, ↓reduceIte, reduceCtorEq, gE]; exact old5 _
    · refine ⟨_, q2, (fun q => by rw [q4] at q; cases q), .exit 0, by rw [q5], ?_⟩
      simp only [gE]
      rw [aE ((q1.upd (i := n + 1 + 1 + 1) (by omega)).one (off := 0) rfl ti4 rfl)]
      have old5 : ∀ (b : Option Blk), Old h (upd h5 (n + 1 + 1 + 1) b) n := fun b j hj => by rw [aH _ _ (by omega), q3 j (by omega) (by omega) (by omega), old4 j hj]
      rw [q0]
      simp only [fgr, unOp, ↓reduceIte, reduceCtorEq, gE]; exact old5 _
structure Ixw (K T : Nat → Prop) (h : Hp) (n x : Nat) (L : List Ver) : Prop where
  ix : ∃ D M, Ix h n D M x L ∧ (∀ j, K j → j < n ∧ ¬ M j) ∧ ∀ j, T j → j < n ∧ ¬ D j
  g : ∀ v ∈ L, zX v
variable {K T : Nat → Prop} {h h' : Hp} {n n' x : Nat} {L : List Ver}
theorem Ixw.rL (s : Ixw K T h n x L) : cQ false L := by
  obtain ⟨⟨D, M, i, _⟩, _⟩ := s
  exact i.r
theorem Ixw.sub {K' : Nat → Prop} (s : Ixw K T h n x L) (hk : ∀ j, K' j → K j) : Ixw K' T h n x L := by
  obtain ⟨⟨D, M, i, q, t⟩, g⟩ := s
  exact ⟨⟨D, M, i, fun j hj => q j (hk j hj), t⟩, g⟩
theorem Ixw.uC (s : Ixw K T h n x L) (hn : n ≤ n') (ho : Old h h' n) : Ixw (fun j => K j ∨ (n ≤ j ∧ j < n')) T h' n' x L := by
  obtain ⟨⟨D, M, i, q, t⟩, g⟩ := s
  refine ⟨⟨D, M, i.old hn ho, fun j hj => ?_, fun j hj => ⟨by have := (t j hj).1; omega, (t j hj).2⟩⟩, g⟩
  rcases hj with hj | hj
  · exact ⟨by have := (q j hj).1; omega, (q j hj).2⟩
  · obtain ⟨⟨S, ⟨vl, vs, xl, xs, iv, mx, ml, ms, mn⟩, _⟩, _⟩ := i
    exact ⟨hj.2, fun w => by have := (mn j w).1; omega⟩
theorem Ixw.old (s : Ixw K T h n x L) (hn : n ≤ n') (ho : Old h h' n) : Ixw K T h' n' x L := (s.uC hn ho).sub fun j q => .inl q
theorem Chg.w {D M D' M' : Nat → Prop} (c : Chg h n D M h' n' D' M') (q : ∀ j, K j → j < n ∧ ¬ M j) (t : ∀ j, T j → j < n ∧ ¬ D j) : (∀ j, K j → h' j = h j) ∧ (∀ j, K j → j < n' ∧ ¬ M' j) ∧ ∀ j, T j → j < n' ∧ ¬ D' j := by
  refine ⟨fun j hj => c.old j (q j hj).1 (q j hj).2, fun j hj => ⟨by have := (q j hj).1; have := c.nx; omega, fun w => ?_⟩, fun j hj => ⟨by have := (t j hj).1; have := c.nx; omega, fun w => ?_⟩⟩
  · have := q j hj
    rcases c.m' j w with w | w
    · exact this.2 w
    · omega
  · have := t j hj
    rcases c.d' j w with w | w
    · exact this.2 w
    · omega
theorem aQ9 (v : Ver) (sv : a9) (ov : v.Ok) (hpn : 0 ≤ v.pn) (hsl : v.aJ.length ≤ 1000000) (hs : Ixw K T h n x L) (hb : Bytes h sv v.aJ) (hsn : ∀ j, aP sv = some j → j < n) (hc : L.length ≤ 900000) (hf : aY h n) :
    Wp (bH env (aV env) 33 [.ptr x 0, .agg (aK v sv)]) h n fun v' h' n' => (∀ j, K j → h' j = h j) ∧ ((CI v L ∧ v' = .int .i64 210 ∧ Ixw K T h' n' x L) ∨ (¬ CI v L ∧ v' = .int .i64 0 ∧ Ixw K T h' n' x (nG L v))) := by
  obtain ⟨⟨D, M, i, q, t⟩, g⟩ := hs
  refine cP (f33 x v sv ov hsl L D M h n i hb hsn hc hf) fun v' h' n' hh => ?_
  rcases hh with ⟨a, b, i', c⟩ | ⟨a, b, D', M', i', c⟩
  · exact ⟨(c.w q t).1, .inl ⟨a, b, ⟨⟨_, _, i', (c.w q t).2⟩, g⟩⟩⟩
  · refine ⟨(c.w q t).1, .inr ⟨a, b, ⟨⟨_, _, i', (c.w q t).2⟩, fun w hw => ?_⟩⟩⟩
    rcases DP.1 hw with rfl | hw
    · refine ⟨?_, hpn⟩
      cases e : wL w with
      | false => rfl
      | true => exact absurd (.inl e) a
    · exact g w hw
theorem aQ8 (aI : List UInt8) (pn made : Int) (hl : aI.length = 32) (hs : Ixw K T h n x L) (hc : L.length ≤ 900000) (hf : aY h n) :
    Wp (bH env (aV env) 34 [.ptr x 0, .agg (aS aI pn), .int .i64 made]) h n fun v' h' n' => (∀ j, K j → h' j = h j) ∧ (((∀ w ∈ L, eR w (key aI pn made) ≠ 0) ∧ v' = .int .i64 210 ∧ Ixw K T h' n' x L) ∨ ∃ w, w ∈ L ∧ eR w (key aI pn made) = 0 ∧ v' = .int .i64 0 ∧ Ixw K T h' n' x (kX L w)) := by
  obtain ⟨⟨D, M, i, q, t⟩, g⟩ := hs
  refine cP (f34 x aI pn made hl L D M h n i (by omega) hf) fun v' h' n' ⟨hh, c⟩ => ?_
  rcases hh with ⟨a, b, i'⟩ | ⟨w, a, b, e, i'⟩
  · exact ⟨(c.w q t).1, .inl ⟨a, b, ⟨⟨_, _, i', (c.w q t).2⟩, g⟩⟩⟩
  · exact ⟨(c.w q t).1, .inr ⟨w, a, b, e, ⟨⟨_, _, i', (c.w q t).2⟩, fun u hu => g u (L6 hu)⟩⟩⟩
theorem aQ7 (aI : List UInt8) (pn made s : Int) (b : List UInt8) (hl : aI.length = 32) (hbl : b.length = 32) (hs : Ixw K T h n x L) (hc : L.length ≤ 900000) (hf : aY h n) :
    Wp (bH env (aV env) 36 [.ptr x 0, .agg (aS aI pn), .int .i64 made, .int .i64 s, .agg (b.map u8)]) h n fun v' h' n' => (∀ j, K j → h' j = h j) ∧
      (((∀ w ∈ L, eR w (key aI pn made) = 0 → (w.bX ≠ 0 ∨ s < 1 ∨ s < made)) ∧ v' = .int .i64 210 ∧ Ixw K T h' n' x L) ∨
      (∃ w ∈ L, eR w (key aI pn made) = 0 ∧ w.bX = 0 ∧ 1 ≤ s ∧ made ≤ s ∧ v' = .int .i64 0 ∧ Ixw K T h' n' x (sN L w (fY w s b)))) := by
  have rL := hs.rL
  obtain ⟨⟨D, M, i, q, t⟩, g⟩ := hs
  refine cP (f36 x aI pn made s b hl hbl L D M h n i hc hf) fun v' h' n' hh => ?_
  rcases hh with ⟨a, e, i', c⟩ | ⟨w, hw, a1, a2, a3, a4, e, D', M', i', c⟩
  · exact ⟨(c.w q t).1, .inl ⟨a, e, ⟨⟨_, _, i', (c.w q t).2⟩, g⟩⟩⟩
  · rw [J2 rL hw] at i'
    refine ⟨(c.w q t).1, .inr ⟨w, hw, a1, a2, a3, a4, e, ⟨⟨_, _, i', (c.w q t).2⟩, fun u hu => ?_⟩⟩⟩
    rcases xI hu with rfl | hu
    · exact AX (g w hw) (.inr ⟨a3, by rw [(AY a1).2.2]; exact a4⟩)
    · exact g u hu
theorem aQ6 (aI : List UInt8) (pn made : Int) (hl : aI.length = 32) (hs : Ixw K T h n x L) (hc : L.length ≤ 900000) (hf : aY h n) :
    Wp (bH env (aV env) 38 [.ptr x 0, .agg (aS aI pn), .int .i64 made]) h n fun v' h' n' => (∀ j, K j → h' j = h j) ∧
      (((∀ w ∈ L, eR w (key aI pn made) = 0 → w.bX = 0) ∧ v' = .int .i64 210 ∧ Ixw K T h' n' x L) ∨
      (∃ w ∈ L, eR w (key aI pn made) = 0 ∧ w.bX ≠ 0 ∧ v' = .int .i64 0 ∧ Ixw K T h' n' x (sN L w (fY w 0 z32)))) := by
  have rL := hs.rL
  obtain ⟨⟨D, M, i, q, t⟩, g⟩ := hs
  refine cP (f38 x aI pn made hl L D M h n i hc hf) fun v' h' n' hh => ?_
  rcases hh with ⟨a, e, i', c⟩ | ⟨w, hw, a1, a2, e, D', M', i', c⟩
  · exact ⟨(c.w q t).1, .inl ⟨a, e, ⟨⟨_, _, i', (c.w q t).2⟩, g⟩⟩⟩
  · rw [J2 rL hw] at i'
    refine ⟨(c.w q t).1, .inr ⟨w, hw, a1, a2, e, ⟨⟨_, _, i', (c.w q t).2⟩, fun u hu => ?_⟩⟩⟩
    rcases xI hu with rfl | hu
    · exact AX (g w hw) (.inl rfl)
    · exact g u hu
theorem Ixw.k (s : Ixw K T h n x L) : Ixk (fun _ => False) h n x L := by
  obtain ⟨⟨D, M, i, q, t⟩, g⟩ := s
  exact ⟨⟨D, M, i, fun j q => q.elim⟩, g⟩
theorem zC {E : Env} {h : Hp} {n : Nat} {t t2 e : TypeId} {i : TI} {s x : a9} {cnt k : Nat} {xs ys : List a9} (hs : Lst h e i.size s cnt xs) (hx : Rds h i.size x k ys)
    (ht : und E t = M.pure (.slice e)) (ht2 : und E t2 = M.pure (.slice e)) (hi : ti E e = M.pure i) (hk : 0 < k)
    (hroom : 2 * (cnt + k) * i.bytes ≤ 281474976710656) (hroom2 : cnt + k ≤ 281474976710656) :
    Wp (fD E [t, t2] (yP cnt s) x) h n fun v' h' n' => v' = .sl n 0 (cnt + k) none i.size ∧ h' = upd h n (some (.row (.l (xs ++ ys)) e)) ∧ n' = n + 1 := by
  simp only [fD, ht2, aB, sV, append, ht, hi, hx.len, gD]
  have hk0 : k.beq 0 = false := kF (by omega)
  simp only [hk0]
  refine dX hx.cells ?_
  have r1 : ((2 * (cnt + k) * i.bytes).ble room && (cnt + k).ble room) = true := by
    unfold room
    rw [cO hroom, cO hroom2]; rfl
  have hc := hs.cut (Nat.le_refl cnt)
  rw [List.take_of_length_le (by rw [hs.rds.length]; exact Nat.le_refl _)] at hc
  have hrd := hc.rds.cells (n := n)
  cases hs with
  | nil =>
    rw [Nat.zero_add] at r1
    simp only [yP, iG, eL, gC, aT, r1, List.nil_append, Nat.zero_add, and_self]
  | sl id cnt cap cells xs hh hl hcc hxs =>
    have hf2 : (cnt + k).ble cnt = false := gX (by omega)
    simp only [yP, cB, Nat.beq_refl, eT, hh, Option.some.injEq, exists_eq_left', eE, gD, hf2]
    refine dX hrd ?_
    simp only [iG, eL, gC, aT, r1, and_self]
structure Inf where
  bJ : Int
  block : List UInt8
  jF : Int
  jJ : Int
  eD : Int
  left : Int
def bK (i : Inf) : List a9 := .int .i64 i.bJ :: (i.block.map u8 ++ [.int .i64 i.jF, .int .i64 i.jJ, .int .i64 i.eD, .int .i64 i.left])
def fW : Inf := ⟨0, z32, 0, 0, 0, 0⟩
theorem bQ {i : Inf} (hb : i.block.length = 32) : (bK i).length = 37 := by simp [bK, hb]
theorem dR (i : Inf) : (bK i).all bB = true := by
  unfold bK
  rw [List.all_cons, List.all_append, List.all_map]
  simp [u8, bB]
theorem lY {i : Inf} (hb : i.block.length = 32) (k : Nat) : (bK i)[33 + k]? = [a9.int .i64 i.jF, .int .i64 i.jJ, .int .i64 i.eD, .int .i64 i.left][k]? := by
  unfold bK
  rw [show 33 + k = 32 + k + 1 by omega, List.getElem?_cons_succ, List.getElem?_append_right (by simp [hb]), List.length_map, hb]
  congr 1; omega
structure IL (h : Hp) (v : a9) (I : List Inf) : Prop where
  ex : ∃ cells, Lst h 61 37 v I.length cells ∧ ∀ (j : Nat) (hj : j < I.length), (cells.drop (j * 37)).take 37 = bK I[j] ∧ I[j].block.length = 32
theorem IL.aM {h h' : Hp} {v : a9} {I : List Inf} (l : IL h v I) (hk : ∀ j, aP v = some j → h' j = h j) : IL h' v I := by
  obtain ⟨cells, c1, c2⟩ := l
  exact ⟨cells, c1.aM hk, c2⟩
theorem u57 : und env 57 = M.pure (.slice 61) := rfl
theorem VJ : sizeOf env 61 = M.pure 37 := rfl
theorem IL.len {h : Hp} {v : a9} {I : List Inf} (l : IL h v I) {ts : List TypeId} : cA env (57 :: ts) v = M.pure (.int .i64 (I.length : Nat)) := by
  obtain ⟨cells, c1, c2⟩ := l
  exact c1.rds.cA u57
theorem IL.kind {h : Hp} {v : a9} {I : List Inf} (l : IL h v I) : v.cells = [v] ∧ bB v = true ∧ dD v = false := by
  obtain ⟨cells, c1, c2⟩ := l
  exact c1.rds.kind
theorem IL.idx {h : Hp} {v : a9} {I : List Inf} (l : IL h v I) {i : Nat} (hi : i < I.length) {h' : Hp} {n' : Nat} : Rd (indexAddr env 57 v (.int .i64 ((i : Nat) : Int))) h' n' [] (cS (i * 37) v) := by
  obtain ⟨cells, c1, c2⟩ := l
  exact c1.rds.idx u57 VJ rfl hi
theorem IL.all {h : Hp} {n : Nat} {v : a9} {I : List Inf} (l : IL h v I) {i : Nat} (hi : i < I.length) : I[i].block.length = 32 ∧ Rd (load env 61 (cS (i * 37) v)) h n (rid v) (.agg (bK I[i])) := by
  obtain ⟨cells, c1, c2⟩ := l
  obtain ⟨e, o⟩ := c2 i hi
  refine ⟨o, ?_⟩
  have hl : cells.length = I.length * 37 := c1.rds.length
  have := c1.rds.agg (E := env) (n := n) (k := i * 37) fQ rfl (by decide) (by show i * 37 + 37 ≤ _; omega)
  have e' : (cells.drop (i * 37)).take 37 = bK I[i] := e
  exact e' ▸ this
theorem IL.nil {h : Hp} : IL h .aN [] := ⟨[], .nil, fun j hj => by simp at hj⟩
structure St (W : Nat → Prop) (h : Hp) (n s : Nat) (L : List Ver) (I : List Inf) : Prop where
  ex : ∃ x lv, Row h s [.ptr x 0, lv] ∧ Ixw W W h n x L ∧ IL h lv I ∧ (∀ j, aP lv = some j → j < n ∧ ¬ W j) ∧ W s ∧ ∀ j, W j → j < n
theorem St.sn {W : Nat → Prop} {h : Hp} {n s : Nat} {L : List Ver} {I : List Inf} (q : St W h n s L I) : s < n := by
  obtain ⟨x, lv, r, i, l, a, b, c⟩ := q
  exact c s b
theorem St.rL {W : Nat → Prop} {h : Hp} {n s : Nat} {L : List Ver} {I : List Inf} (q : St W h n s L I) : cQ false L := by
  obtain ⟨x, lv, r, i, l, a, b, c⟩ := q
  exact i.rL
theorem St.next {W : Nat → Prop} {h h' : Hp} {n n' s : Nat} {L : List Ver} {I : List Inf} (q : St W h n s L I) (hn : n ≤ n') (hk : ∀ j, j < n → (j = s ∨ ¬ W j) → h' j = h j) : St W h' n' s L I := by
  obtain ⟨x, lv, r, ⟨⟨D, M, i, k, t⟩, g⟩, l, a, b, c⟩ := q
  have in_ : ∀ j, j < n → (D j ∨ M j) → h' j = h j := fun j hj w => hk j hj (.inr fun y => by
    rcases w with w | w
    · exact (t j y).2 w
    · exact (k j y).2 w)
  exact ⟨x, lv, r.aM (hk s (c s b) (.inl rfl)), ⟨⟨D, M, i.oV hn in_, fun j y => ⟨by have := c j y; omega, (k j y).2⟩, fun j y => ⟨by have := c j y; omega, (t j y).2⟩⟩, g⟩, l.aM fun j y => hk j (a j y).1 (.inr (a j y).2), fun j y => ⟨by have := (a j y).1; omega, (a j y).2⟩, b, fun j y => by have := c j y; omega⟩
theorem St.old {W : Nat → Prop} {h h' : Hp} {n n' s : Nat} {L : List Ver} {I : List Inf} (q : St W h n s L I) (hn : n ≤ n') (ho : Old h h' n) : St W h' n' s L I := q.next hn fun j hj _ => ho j hj
theorem f66 (s x : Nat) (lv : a9) (h : Hp) (n : Nat) (hr : Row h s [.ptr x 0, lv]) : Wp (bH env (aV env) 66 [.ptr s 0]) h n fun v' h' n' => v' = .bool false ∧ h' = h ∧ n' = n := by
  refine aU aa4 ZW ?_
  simp only [GP, Try.f66, Option.getD_some, List.replicate, tyr, fgr, bor, bL, gK, aR, bS, equal, gN, eN, eO, Nat.reduceSub, gE]
  rw [aE (hr.one (off := 0) rfl pD rfl)]
  simp only [tyr, fgr, bor, bL, gK, bE, bS, equal, gN, eN, eO, gE]
theorem T1 (s x : Nat) (lv : a9) (I : List Inf) (h : Hp) (n : Nat) (hr : Row h s [.ptr x 0, lv]) (hi : IL h lv I) (hc : I.length ≤ 1000000) : Rd (Ins.B9 [.ptr s 0]) h n [s] (.int .i64 ((I.length : Nat) - 1)) := by
  obtain ⟨t, hr⟩ := hr
  obtain ⟨cells, c1, c2⟩ := hi
  have key : Rd ((eQ s).bind (eE fun c _ => match c with
          | .l cs => match cs with
            | [x, lv] => match x with
              | .ptr _ _ => match lv with
                | .aN => M.pure (a9.int .i64 (-1))
                | .sl _ _ len _ _ => match len.ble 1000000 with
                  | true => M.pure (.int .i64 ((len : Nat) - 1))
                  | false => bD "Tip"
                | _ => bD "Tip"
              | _ => bD "Tip"
            | _ => bD "Tip"
          | _ => bD "Tip")) h n ([] ++ [s]) (.int .i64 ((I.length : Nat) - 1)) := by
    refine Rd.bind (Rd.get hr) ?_
    clear c2; generalize hI : I.length = len at *
    cases c1 with
    | nil => exact Rd.pure _
    | sl id cnt cap cells xs hh hl hcc hx =>
      simp only [eE, cO hc]
      exact Rd.pure _
  exact key
theorem WY {W : Nat → Prop} {h : Hp} {n s : Nat} {L : List Ver} {I : List Inf} (q : St W h n s L I) (hc : I.length ≤ 1000000) : Rd (Ins.B9 [.ptr s 0]) h n [s] (.int .i64 ((I.length : Nat) - 1)) := by
  obtain ⟨x, lv, r, i, l, a, b, c⟩ := q
  exact T1 s x lv I h n r l hc
theorem f70 (v : a9) (I : List Inf) (h0 h : Hp) (n : Nat) (hv : IL h0 v I) : Wp (bH env (aV env) 70 [v]) h n fun v' h' n' => v' = yP I.length v ∧ h' = h ∧ n' = n := by
  refine aU aM3 aA5 ?_
  simp only [YW, Try.f70, Option.getD_some, List.replicate, fgr, opt, builtin, Nat.reduceSub, hv.len, gE]
  obtain ⟨cells, c1, c2⟩ := hv
  rw [aE (c1.ab6 u57 VJ rfl (Nat.le_refl _))]
  simp only [fgr, gE]
theorem Y5 {h : Hp} {v : a9} {I : List Inf} {cells : List a9} (c1 : Lst h 61 37 v I.length cells) (c2 : ∀ (j : Nat) (hj : j < I.length), (cells.drop (j * 37)).take 37 = bK I[j] ∧ I[j].block.length = 32) : cells.all bB = true := by
  rw [List.all_eq_true]
  intro c hc
  obtain ⟨k, hk, rfl⟩ := List.mem_iff_getElem.1 hc
  have hl : cells.length = I.length * 37 := c1.rds.length
  have hj : k / 37 < I.length := by omega
  have e := (c2 (k / 37) hj).1
  have hp := tP e (i := k % 37) (by omega)
  rw [show k / 37 * 37 + k % 37 = k by omega, List.getElem?_eq_getElem hk] at hp
  exact List.all_eq_true.1 (dR I[k / 37]) _ (List.mem_of_getElem? hp.symm)
theorem f71 (v : a9) (I : List Inf) (h : Hp) (n : Nat) (hv : IL h v I) (hc : I.length ≤ 1000000) (hf : aY h n) :
    Wp (bH env (aV env) 71 [v]) h n fun v' h' n' => IL h' v' I ∧ (∀ j, aP v' = some j → n ≤ j ∧ j < n') ∧ Old h h' n := by
  obtain ⟨cells, c1, c2⟩ := hv
  have h1 := Y5 c1 c2
  refine aU aM2 aA4 ?_
  obtain ⟨en, en2⟩ := c1.EN u57
  simp only [YV, Try.f71, Option.getD_some, List.replicate, fgr, Nat.reduceSub, en, gE]
  cases hnil : lX v with
  | true =>
    obtain ⟨e1, e2, e3⟩ := en2 hnil
    have : I = [] := List.eq_nil_of_length_eq_zero e2
    subst this
    simp only [fgr, gE]
    exact ⟨.nil, (fun j q => by cases q), Old.refl _ _⟩
  | false =>
    simp only [tyr, buildSlice, eY, fill, Nat.ble, gE]
    refine gT fQ hf (f := fun id => a9.sl id 0 0 (some 0) 37) fun H r o f => ?_
    simp only [builtin, gE]
    have c1' := c1.aM (h' := H) fun j q => o j (by have := c1.dL hf q; omega)
    refine dP (i := uV.i) (e := 61) (cnt := 0) (xs := []) (.sl n 0 (some 0) [] [] r (by simp) (fun k hk => by injection hk with hk; subst hk; simp) (by simp)) c1'.rds u57 u57 fQ h1 (by decide) (by show 2 * (0 + I.length) * 72 ≤ _; omega) (by omega) f ?_
    intro v' h' n' hn' f' l' hid hk
    simp only [fgr, gE]
    rw [Nat.zero_add, List.nil_append] at l'
    refine ⟨⟨cells, l', c2⟩, fun j q => ?_, fun j hj => ?_⟩
    · rcases hid with w | ⟨w, w2⟩
      · rw [w] at q; injection q with q; subst q; exact ⟨Nat.le_refl _, by omega⟩
      · rw [w] at q; injection q with q; subst q; exact ⟨by omega, w2⟩
    · rw [hk j (by omega) (fun e => by injection e with e; omega), o j (by omega)]
theorem f26 (W : Nat → Prop) (h : Hp) (n : Nat) (hf : aY h n) (hw : ∀ j, W j → j < n) : Wp (bH env (aV env) 26 []) h n fun v' h' n' => ∃ s, v' = .ptr s 0 ∧ n ≤ s ∧ St (fun j => W j ∨ j = s) h' n' s [] [] ∧ Old h h' n := by
  refine aU aO8 aD0 ?_
  simp only [ZK, Try.f26, Option.getD_some, List.replicate, fgr, hkr, Nat.reduceSub, gE]
  refine aQ hf (f40 h n hf) fun v1 h1 n1 hn1 f1 ⟨x, e1, hx, i1, o1⟩ => ?_
  subst e1
  have b59 : build env 59 [(0, .ptr x 0)] = M.pure (.agg [.ptr x 0, .aN]) := rfl
  simp only [b59, gE]
  refine cG (v := .agg [.ptr x 0, .aN]) MG rfl f1 fun H2 r2 o2 f2 => ?_
  simp only [fgr, gE]
  replace r2 : Row H2 n1 [.ptr x 0, .aN] := r2
  have xlt := i1.xlt
  refine ⟨n1, rfl, by omega, ⟨x, .aN, r2, ⟨⟨_, _, i1.old (by omega) (fun j hj => o2 j (by omega)), fun j y => ⟨?_, fun w => ?_⟩, fun j y => ⟨?_, fun w => w⟩⟩, fun v hv => by cases hv⟩, .nil, (fun j y => by cases y), .inr rfl, fun j y => ?_⟩, fun j hj => by rw [o2 j (by omega), o1 j hj]⟩
  · rcases y with y | y
    · have := hw j y; omega
    · omega
  · rcases y with y | y
    · have := hw j y; omega
    · omega
  · rcases y with y | y
    · have := hw j y; omega
    · omega
  · rcases y with y | y
    · have := hw j y; omega
    · omega
theorem f24 {W : Nat → Prop} {h : Hp} {n s : Nat} {L : List Ver} {I : List Inf} (q : St W h n s L I) (hc : L.length ≤ 900000) (hf : aY h n) :
    Wp (bH env (aV env) 24 [.ptr s 0]) h n fun v' h' n' => VL h' n n' v' L ∧ Old h h' n := by
  obtain ⟨x, lv, r, i, l, a, b, c⟩ := q
  refine aU aP0 aD2 ?_
  simp only [ZM, Try.f24, Option.getD_some, List.replicate, fgr, hkr, Nat.reduceSub, gE]
  refine dA (f66 s x lv h n r) ?_
  simp only [tyr, fgr, aR, gE]
  rw [aE (r.one (off := 0) rfl pD rfl)]
  simp only [hkr, gE]
  refine aQ hf (ar5 i.k hc hf) fun v1 h1 n1 hn1 f1 ⟨l1, o1⟩ => ?_
  simp only [fgr, gE]
  exact ⟨l1, o1⟩
theorem TK (Q : dI) (ks : List Kf) (Y lv : a9) (c s x : Nat) (I : List Inf) (hc : I.length ≤ 1000000) (P : Nat → Hp → Nat → Prop) (R : Hp → Nat → Prop)
    (hP : ∀ k h n, P k h n → Row h c [.ptr s 0] ∧ Row h s [.ptr x 0, lv] ∧ IL h lv I ∧ aY h n)
    (hY : ∀ (k : Nat) (hk : k < I.length) (h : Hp) (n : Nat), P k h n → Wp (jQ env (aV env) Y [.agg (bK I[k])]) h n fun v' h' n' => (yes true v' ∧ P (k + 1) h' n') ∨ (yes false v' ∧ R h' n'))
    (hT : ∀ (h : Hp) (n : Nat) (tm : List a9), P I.length h n → cV env 102 none Q ks (.exit 0) tm h n)
    (hR : ∀ (h : Hp) (n : Nat) (tm : List a9), R h n → cV env 102 none Q ks .ret tm h n) :
    ∀ (m i : Nat) (h : Hp) (n : Nat) (x3 x10 x21 : a9), i + m = I.length → P i h n →
      Run env 102 none Q (.loop C9) ks (Y :: .ptr c 0 :: a9.aA :: x3 :: a9.aA :: a9.aA :: a9.aA :: a9.aA :: .int .i64 (I.length : Nat) :: .int .i64 (i : Nat) :: x10 :: a9.aA :: a9.aA :: a9.aA :: a9.aA :: a9.aA :: a9.aA :: a9.aA :: a9.aA :: a9.aA :: a9.aA :: x21 :: a9.aA :: []) h n := by
  intro m
  induction m with
  | zero =>
    intro i h n x3 x10 x21 hm hp
    have : i = I.length := by omega
    subst this
    rw [bO]
    have hcc : ¬ (((I.length : Nat) : Int) < ((I.length : Nat) : Int)) := by omega
    simp only [C9, bC, Try.f102, Option.getD_some, fgr, bor, List.getD_cons_zero, hcc, gE]
    exact hT h n _ hp
  | succ m ih =>
    intro i h n x3 x10 x21 hm hp
    obtain ⟨rc, rs, il, hf⟩ := hP i h n hp
    have hil : i < I.length := by omega
    have hcc : (((i : Nat) : Int) < ((I.length : Nat) : Int)) := by omega
    have w1 : IntKind.i64.wrap (((i : Nat) : Int) + 1) = ((i + 1 : Nat) : Int) := by rw [w64 (by omega) (by omega)]; omega
    have hYi := hY i hil
    obtain ⟨ok, hld⟩ := il.all (n := n) hil
    rw [bO]
    simp only [C9, bC, Try.f102, Option.getD_some, fgr, bor, List.getD_cons_zero, hcc, gE]
    rw [aE (rc.one (off := 0) rfl JK rfl)]
    simp only [tyr, aR, gE]
    rw [aE (rs.one (off := 1) rfl tH rfl)]
    simp only [gE]
    rw [aE (il.idx hil)]
    simp only [gE]
    rw [aE hld]
    simp only [gE]
    refine aQ hf (hYi h n hp) fun v4 h4 n4 hn4 f4 hh => ?_
    rcases hh with ⟨e4 | e4, hp4⟩ | ⟨e4 | e4, hr4⟩
    · subst e4
      simp only [fgr, bor, bZ, unOp, w1, gE]
      exact ih (i + 1) h4 n4 _ _ _ (by omega) hp4
    · subst e4
      simp only [fgr, bor, bZ, unOp, w1, gE]
      exact ih (i + 1) h4 n4 _ _ _ (by omega) hp4
    · subst e4
      simp only [fgr, unOp, gE]
      exact hR h4 n4 _ hr4
    · subst e4
      simp only [fgr, unOp, gE]
      exact hR h4 n4 _ hr4
theorem f102 (Y lv : a9) (c s x : Nat) (I : List Inf) (h : Hp) (n : Nat) (hc : I.length ≤ 1000000) (P : Nat → Hp → Nat → Prop) (R : Hp → Nat → Prop) (h0 : P 0 h n)
    (hP : ∀ k h n, P k h n → Row h c [.ptr s 0] ∧ Row h s [.ptr x 0, lv] ∧ IL h lv I ∧ aY h n)
    (hY : ∀ (k : Nat) (hk : k < I.length) (h : Hp) (n : Nat), P k h n → Wp (jQ env (aV env) Y [.agg (bK I[k])]) h n fun v' h' n' => (yes true v' ∧ P (k + 1) h' n') ∨ (yes false v' ∧ R h' n')) :
    Wp (bH env (aV env) 102 [Y, .ptr c 0]) h n fun v' h' n' => v' = .tup [] ∧ (P I.length h' n' ∨ R h' n') := by
  obtain ⟨rc, rs, il, hf⟩ := hP 0 h n h0
  refine aU ar2 am8 ?_
  simp only [PY, Try.f102, Option.getD_some, List.replicate, Nat.reduceAdd, Nat.reduceSub, gE]
  rw [aE (rc.one (off := 0) rfl JK rfl)]
  simp only [tyr, aR, gE]
  rw [aE (rs.one (off := 1) rfl tH rfl)]
  simp only [fgr, builtin, il.len, gE]
  refine TK _ _ Y lv c s x I hc P R hP hY ?_ ?_ I.length 0 h n _ _ _ (by omega) h0
  · intro h4 n4 tm p4
    simp only [bI, true_and]
    exact .inl p4
  · intro h4 n4 tm r4
    simp only [bI, true_and]
    exact .inr r4
theorem f72 (s : Nat) (h : Hp) (n : Nat) (hf : aY h n) : Wp (bH env (aV env) 72 [.ptr s 0]) h n fun v' h' n' => v' = .fn (.func 102) [] [.ptr n 0] ∧ Row h' n [.ptr s 0] ∧ (∀ j, j ≠ n → h' j = h j) ∧ n' = n + 1 := by
  refine aU aM1 aA3 ?_
  simp only [YU, Try.f72, Option.getD_some, List.replicate, Nat.reduceSub, gE]
  refine cG (v := .ptr s 0) JK rfl hf fun H1 r1 o1 f1 => ?_
  simp only [fgr, gE]
  exact ⟨r1, o1⟩
def hO (I : List Inf) (z : Int) : Option Inf := I.find? fun i => decide (i.bJ = z)
theorem KI {I : List Inf} {z : Int} (h : ∀ i (hi : i < I.length), I[i].bJ ≠ z) : hO I z = none := by
  unfold hO
  rw [List.find?_eq_none]
  intro i hi
  obtain ⟨k, hk, rfl⟩ := List.mem_iff_getElem.1 hi
  simpa using h k hk
theorem KH {I : List Inf} {z : Int} {k : Nat} (hk : k < I.length) (h : ∀ i (hi : i < I.length), i < k → I[i].bJ ≠ z) (hz : I[k].bJ = z) : hO I z = some I[k] := by
  unfold hO
  rw [List.find?_eq_some_iff_getElem]
  exact ⟨by simpa using hz, k, hk, rfl, fun j hj => by simpa using h j (by omega) hj⟩
def nQ (o : Option Inf) : Int := match o with
  | some _ => 0
  | none => 221
noncomputable def L25 (tm : List a9) : kS := { state := .ready, pending := none, fn := 25, tmps := tm, params := [14], assign := NP, body := NK }
theorem fI : fW.block.length = 32 := rfl
theorem f25 {W : Nat → Prop} {h : Hp} {n s : Nat} {L : List Ver} {I : List Inf} (q : St W h n s L I) (z : Int) (hc : I.length ≤ 1000000) (hf : aY h n) :
    Wp (bH env (aV env) 25 [.ptr s 0, .int .i64 z]) h n fun v' h' n' => v' = .tup [.agg (bK ((hO I z).getD fW)), .int .i64 (nQ (hO I z))] ∧ ((hO I z).getD fW).block.length = 32 ∧ Old h h' n := by
  obtain ⟨x, lv, r, i, il, a, b, c⟩ := q
  have sn := c s b
  refine aU aO9 aD1 ?_
  simp only [ZL, Try.f25, Option.getD_some, List.replicate, Nat.reduceAdd, Nat.reduceSub, gE]
  refine cG (v := .int .i64 z) ti3 rfl hf fun H1 r1 o1 f1 => ?_
  replace r1 : Row H1 n [.int .i64 z] := r1
  simp only [gE]
  rw [bU fQ rfl]
  obtain ⟨H2, hH2⟩ : ∃ H2, H2 = upd H1 (n + 1) (some (.row (.l (bK fW)) 61)) := ⟨_, rfl⟩
  have g2 : H2 (n + 1) = some (.row (.l (bK fW)) 61) := by rw [hH2, aO]
  have o2 : ∀ j, j ≠ n + 1 → H2 j = H1 j := fun j hj => by rw [hH2, aH _ _ hj]
  have f2 : aY H2 (n + 1 + 1) := by rw [hH2]; exact f1.new
  show Ops _ _ _ _ _ _ _ _ (upd H1 (n + 1) (some (.row (.l (bK fW)) 61))) _
  rw [← hH2]
  clear hH2
  have rs2 : Row H2 s [.ptr x 0, lv] := (r.aM (o1 s (by omega))).aM (o2 s (by omega))
  simp only [fgr, hkr, gE]
  refine dA (f66 s x lv H2 (n + 1 + 1) rs2) ?_
  simp only [fgr, gE]
  rw [bU fQ rfl]
  obtain ⟨H3, hH3⟩ : ∃ H3, H3 = upd H2 (n + 1 + 1) (some (.row (.l (bK fW)) 61)) := ⟨_, rfl⟩
  have g3 : H3 (n + 1 + 1) = some (.row (.l (bK fW)) 61) := by rw [hH3, aO]
  have o3 : ∀ j, j ≠ n + 1 + 1 → H3 j = H2 j := fun j hj => by rw [hH3, aH _ _ hj]
  have f3 : aY H3 (n + 1 + 1 + 1) := by rw [hH3]; exact f2.new
  show Ops _ _ _ _ _ _ _ _ (upd H2 (n + 1 + 1) (some (.row (.l (bK fW)) 61))) _
  rw [← hH3]
  clear hH3
  simp only [fgr, gE]
  rw [bU D9 rfl]
  simp only [cel, gE]
  refine cK (v := .int .i64 221) D9 rfl rfl rfl f3 fun H4 r4 o4 f4 => ?_
  replace r4 : Row H4 (n + 1 + 1 + 1) [.int .i64 221] := r4
  simp only [fgr, hkr, gE]
  refine aQ f4 (f72 s H4 (n + 1 + 1 + 1 + 1) f4) fun v5 h5 n5 hn5 f5 ⟨e5, r5, o5, en5⟩ => ?_
  subst e5; subst en5
  simp only [bI, fgr, bP, put, aF]
  refine lD (g := 102) (first := []) (cap := [.ptr (n + 1 + 1 + 1 + 1) 0]) rfl rfl ?_
  let TM : List a9 := (.ptr s 0 :: .int .i64 z :: a9.aA :: .ptr n 0 :: .ptr (n + 1) 0 :: .int .i64 0 :: .ptr (n + 1 + 1) 0 :: .ptr (n + 1 + 1 + 1) 0 :: undef :: a9.aA :: .bool false :: a9.aA :: a9.aA :: .fn (.func 102) [] [.ptr (n + 1 + 1 + 1 + 1) 0] :: undef :: a9.aA :: a9.aA :: a9.aA :: undef :: a9.aA :: a9.aA :: a9.aA :: [])
  obtain ⟨H7, hH7⟩ : ∃ H7, H7 = upd h5 (n + 1 + 1 + 1 + 1 + 1) (some (Blk.loop (L25 TM))) := ⟨_, rfl⟩
  show Wp (fX env (aV env) 102 [a9.fn (Fn.yield (n + 1 + 1 + 1 + 1 + 1)) [] [], a9.ptr (n + 1 + 1 + 1 + 1) 0]) (upd h5 (n + 1 + 1 + 1 + 1 + 1) (some (Blk.loop (L25 TM)))) (n + 1 + 1 + 1 + 1 + 1 + 1) _
  rw [ak7, ← hH7]
  have f7 : aY H7 (n + 1 + 1 + 1 + 1 + 1 + 1) := by rw [hH7]; exact f5.new
  have o7 : ∀ j, j ≠ n + 1 + 1 + 1 + 1 + 1 → H7 j = h5 j := fun j hj => by rw [hH7, aH _ _ hj]
  have g7 : H7 (n + 1 + 1 + 1 + 1 + 1) = some (.loop (L25 TM)) := by rw [hH7, aO]
  clear hH7
  have old7 : ∀ j, j < n → H7 j = h j := fun j hj => by rw [o7 j (by omega), o5 j (by omega), o4 j (by omega), o3 j (by omega), o2 j (by omega), o1 j (by omega)]
  have z7 : Row H7 n [.int .i64 z] := ((((r1.aM (o2 _ (by omega))).aM (o3 _ (by omega))).aM (o4 _ (by omega))).aM (o5 _ (by omega))).aM (o7 _ (by omega))
  have b7 : H7 (n + 1) = some (.row (.l (bK fW)) 61) := by rw [o7 _ (by omega), o5 _ (by omega), o4 _ (by omega), o3 _ (by omega)]; exact g2
  have c7 : H7 (n + 1 + 1) = some (.row (.l (bK fW)) 61) := by rw [o7 _ (by omega), o5 _ (by omega), o4 _ (by omega)]; exact g3
  have d7 : Row H7 (n + 1 + 1 + 1) [.int .i64 221] := (r4.aM (o5 _ (by omega))).aM (o7 _ (by omega))
  have s7 : Row H7 (n + 1 + 1 + 1 + 1) [.ptr s 0] := r5.aM (o7 _ (by omega))
  have rs7 : Row H7 s [.ptr x 0, lv] := r.aM (old7 s sn)
  have il7 : IL H7 lv I := il.aM fun j y => old7 j (a j y).1
  refine cP (f102 (.fn (.yield (n + 1 + 1 + 1 + 1 + 1)) [] []) lv (n + 1 + 1 + 1 + 1) s x I H7 (n + 1 + 1 + 1 + 1 + 1 + 1) hc
    (fun k h1 n1 => aY h1 n1 ∧ n + 1 + 1 + 1 + 1 + 1 + 1 ≤ n1 ∧ h1 (n + 1 + 1 + 1 + 1 + 1) = some (.loop (L25 TM)) ∧ (∀ j, j < n + 1 + 1 + 1 + 1 + 1 → h1 j = H7 j) ∧ ∀ i (hi : i < I.length), i < k → I[i].bJ ≠ z)
    (fun h1 n1 => ∃ (l : kS) (k : Nat) (hk : k < I.length), h1 (n + 1 + 1 + 1 + 1 + 1) = some (.loop l) ∧ l.state = .done ∧ l.pending = some (.exit 0) ∧ (∀ i (hi : i < I.length), i < k → I[i].bJ ≠ z) ∧ I[k].bJ = z ∧ I[k].block.length = 32 ∧ Row h1 (n + 1 + 1) (bK I[k]) ∧ Row h1 (n + 1 + 1 + 1) [.int .i64 0] ∧ ∀ j, j < n + 1 + 1 → h1 j = H7 j)
    ⟨f7, Nat.le_refl _, g7, fun j _ => rfl, fun i _ q => by omega⟩ ?_ ?_) ?_
  · rintro k h1 n1 ⟨q1, q2, q3, q4, q5⟩
    exact ⟨s7.aM (q4 _ (by omega)), rs7.aM (q4 s (by omega)), il7.aM fun j y => q4 j (by have := (a j y).1; omega), q1⟩
  · rintro k hk h1 n1 ⟨q1, q2, q3, q4, q5⟩
    obtain ⟨bok, _⟩ := il7.all (n := n1) hk
    have hdec : ∀ i (hi : i < I.length), i < k → I[i].bJ ≠ z := q5
    have hnx : ∀ i (hi : i < I.length), I[k].bJ ≠ z → i < k + 1 → I[i].bJ ≠ z := fun i hi hne hlt => by
      by_cases e : i = k
      · subst e; exact hne
      · exact q5 i hi (by omega)
    refine nA q3 rfl rfl ?_
    simp only [NP, List.getD_cons_zero, lT, List.zip_cons_cons, List.zip_nil_left, L25, TM, cE, Try.f25, Option.getD_some, gE]
    rw [bU fQ rfl]
    simp only [cel, gE]
    refine cK (v := .agg (bK I[k])) fQ rfl (bQ bok) (dR _) q1 fun H8 r8 o8 f8 => ?_
    replace r8 : Row H8 n1 (bK I[k]) := r8
    have g8 : H8 (n + 1 + 1 + 1 + 1 + 1) = some (.loop (L25 TM)) := (o8 _ (by omega)).trans q3
    simp only [bI, fgr, bP, aF, true_and]
    refine ⟨_, g8, rfl, ?_⟩
    obtain ⟨h9, hh9⟩ : ∃ h9, h9 = upd H8 (n + 1 + 1 + 1 + 1 + 1) (some (Blk.loop { L25 TM with state := .busy })) := ⟨_, rfl⟩
    have o9 : ∀ j, j ≠ n + 1 + 1 + 1 + 1 + 1 → h9 j = H8 j := fun j hj => by rw [hh9, aH _ _ hj]
    have g9 : h9 (n + 1 + 1 + 1 + 1 + 1) = some (.loop { L25 TM with state := .busy }) := by rw [hh9, aO]
    have f9 : aY h9 (n1 + 1) := by rw [hh9]; exact f8.upd (by omega)
    show Run env 25 _ _ _ _ _ (upd H8 (n + 1 + 1 + 1 + 1 + 1) (some (Blk.loop { L25 TM with state := .busy }))) (n1 + 1)
    rw [← hh9]
    clear hh9
    have to7 : ∀ j, j < n + 1 + 1 + 1 + 1 + 1 → h9 j = H7 j := fun j hj => by rw [o9 j (by omega), o8 j (by omega), q4 j hj]
    have r9 : Row h9 n1 (bK I[k]) := r8.aM (o9 _ (by omega))
    simp only [NK, List.getD_cons_zero, cE, Try.f25, Option.getD_some, tyr, fgr, aR, gE]
    rw [aE (Row.one (off := 0) r9 (x := .int .i64 I[k].bJ) rfl ti3 rfl)]
    simp only [gE]
    rw [aE ((z7.aM (to7 n (by omega))).one (off := 0) rfl ti3 rfl)]
    by_cases hz : I[k].bJ = z
    · simp only [fgr, bor, hz, gE]
      rw [aE (Row.eF r9 fQ rfl (bQ bok))]
      simp only [gE]
      rw [cR (Row.write (v := .agg (bK I[k])) ((to7 (n + 1 + 1) (by omega)).trans c7) fQ (bQ bok) (by rw [bQ fI]; show 0 + 37 ≤ 37; omega) (dR _))]
      rw [dC (by show (bK I[k]).length = _; rw [bQ bok, bQ fI])]
      obtain ⟨hX, hhX⟩ : ∃ hX, hX = upd h9 (n + 1 + 1) (some (.row (.l (bK I[k])) 61)) := ⟨_, rfl⟩
      show Ops _ _ _ _ _ _ _ _ (upd h9 (n + 1 + 1) (some (.row (.l (bK I[k])) 61))) _
      rw [← hhX]
      have oX : ∀ j, j ≠ n + 1 + 1 → hX j = h9 j := fun j hj => by rw [hhX, aH _ _ hj]
      have rX : Row hX (n + 1 + 1) (bK I[k]) := ⟨61, by rw [hhX, aO]⟩
      clear hhX
      simp only [gE]
      obtain ⟨e0, hr7⟩ := d7
      have hr7' : hX (n + 1 + 1 + 1) = some (.row (.l [.int .i64 221]) e0) := by rw [oX _ (by omega), to7 _ (by omega)]; exact hr7
      rw [cR (Row.write (v := .int .i64 0) hr7' D9 rfl (by show 0 + 1 ≤ 1; omega) rfl)]
      obtain ⟨hA, hhA⟩ : ∃ hA, hA = upd hX (n + 1 + 1 + 1) (some (.row (.l [.int .i64 0]) e0)) := ⟨_, rfl⟩
      show Ops _ _ _ _ _ _ _ _ (upd hX (n + 1 + 1 + 1) (some (.row (.l [.int .i64 0]) e0))) _
      rw [← hhA]
      have gA : hA (n + 1 + 1 + 1 + 1 + 1) = some (.loop { L25 TM with state := .busy }) := by rw [hhA, aH _ _ (by omega), oX _ (by omega)]; exact g9
      have iA : Row hA (n + 1 + 1) (bK I[k]) := rX.aM (by rw [hhA, aH _ _ (by omega)])
      have eA : Row hA (n + 1 + 1 + 1) [.int .i64 0] := ⟨e0, by rw [hhA, aO]⟩
      have oA : ∀ j, j < n + 1 + 1 → hA j = H7 j := fun j hj => by rw [hhA, aH _ _ (by omega), oX _ (by omega), to7 j (by omega)]
      clear hhA
      simp only [bI, qL, fgr, bP, aF]
      exact ⟨_, gA, .inr ⟨.inl rfl, _, k, hk, aO _ _ _, rfl, rfl, hdec, hz, bok, iA.upd (by omega), eA.upd (by omega), fun j hj => by rw [aH _ _ (by omega), oA j hj]⟩⟩
    · simp only [fgr, bor, hz, gE]
      exact ⟨_, g9, .inl ⟨.inl rfl, f9.upd (by omega), by omega, aO _ _ _, fun j hj => by rw [aH _ _ (by omega), to7 j hj], fun i hi hlt => hnx i hi hz hlt⟩⟩
  · rintro v5 h5' n5' ⟨e5, hh⟩
    rcases hh with ⟨q1, q2, q3, q4, q5⟩ | ⟨l, k, hk, q1, q2, q3, q4, q5, q6, q7, q8, q9⟩
    · refine ⟨_, q3, (fun q => by cases q), .normal, rfl, ?_⟩
      have hI : hO I z = none := KI fun i hi => q5 i hi hi
      rw [hI]
      obtain ⟨hB, hhB⟩ : ∃ hB, hB = upd h5' (n + 1 + 1 + 1 + 1 + 1) (some (Blk.loop { L25 TM with state := .exhausted })) := ⟨_, rfl⟩
      have oB : ∀ j, j < n + 1 + 1 + 1 + 1 + 1 → hB j = H7 j := fun j hj => by rw [hhB, aH _ _ (by omega), q4 j hj]
      show cV env 25 _ _ _ _ _ (upd h5' (n + 1 + 1 + 1 + 1 + 1) (some (Blk.loop { L25 TM with state := .exhausted }))) _
      rw [← hhB]
      clear hhB
      have rI : Row hB (n + 1 + 1) (bK fW) := ⟨61, (oB _ (by omega)).trans c7⟩
      have rE : Row hB (n + 1 + 1 + 1) [.int .i64 221] := d7.aM (oB _ (by omega))
      have rB : hB (n + 1) = some (.row (.l (bK fW)) 61) := (oB _ (by omega)).trans b7
      simp only [bI]
      refine bW ⟨rfl, ?_⟩
      simp only [gE]
      rw [aW (Row.eF rI fQ rfl (bQ fI))]
      simp only [gE]
      rw [aW (rE.one (off := 0) rfl D9 rfl)]
      simp only [Nat.reduceAdd, gE]
      refine jN (Row.write (v := .agg (bK fW)) rB fQ (bQ fI) (by rw [bQ fI]; show 0 + 37 ≤ 37; omega) (dR _)) ?_
      rw [dC (by rfl)]
      simp only [fgr, cel, Nat.reduceAdd, gE]
      refine ⟨(by (try simp (disch := first | assumption | omega) only [cJ, gF]); repeat' (first | rfl | exact (Bool.or_eq_true _ _).mpr (.inr rfl) | refine (Bool.and_eq_true _ _).mpr ⟨?_, ?_⟩)), ?_⟩
      refine dX (Row.eF (cs := bK fW) ⟨61, aO _ _ _⟩ fQ rfl (bQ fI)) (aT.2 ?_)
      exact ⟨rfl, fI, fun j hj => by rw [aH _ _ (by omega), oB j (by omega), old7 j hj]⟩
    · refine ⟨_, q1, (fun q => by rw [q2] at q; cases q), .exit 0, by rw [q3], ?_⟩
      have hI : hO I z = some I[k] := KH hk q4 q5
      rw [hI]
      obtain ⟨hB, hhB⟩ : ∃ hB, hB = upd h5' (n + 1 + 1 + 1 + 1 + 1) (some (Blk.loop { l with state := .exhausted })) := ⟨_, rfl⟩
      have oB : ∀ j, j ≠ n + 1 + 1 + 1 + 1 + 1 → hB j = h5' j := fun j hj => by rw [hhB, aH _ _ hj]
      show cV env 25 _ _ _ _ _ (upd h5' (n + 1 + 1 + 1 + 1 + 1) (some (Blk.loop { l with state := .exhausted }))) _
      rw [← hhB]
      clear hhB
      have rI : Row hB (n + 1 + 1) (bK I[k]) := q7.aM (oB _ (by omega))
      have rE : Row hB (n + 1 + 1 + 1) [.int .i64 0] := q8.aM (oB _ (by omega))
      have rB : hB (n + 1) = some (.row (.l (bK fW)) 61) := by rw [oB _ (by omega), q9 _ (by omega)]; exact b7
      simp only [bI]
      refine bW ⟨rfl, ?_⟩
      simp only [gE]
      rw [aW (Row.eF rI fQ rfl (bQ q6))]
      simp only [gE]
      rw [aW (rE.one (off := 0) rfl D9 rfl)]
      simp only [Nat.reduceAdd, gE]
      refine jN (Row.write (v := .agg (bK I[k])) rB fQ (bQ q6) (by rw [bQ fI]; show 0 + 37 ≤ 37; omega) (dR _)) ?_
      rw [dC (by show (bK I[k]).length = _; rw [bQ q6, bQ fI])]
      simp only [fgr, cel, Nat.reduceAdd, gE]
      refine ⟨(by (try simp (disch := first | assumption | omega) only [cJ, gF]); repeat' (first | rfl | exact (Bool.or_eq_true _ _).mpr (.inr rfl) | refine (Bool.and_eq_true _ _).mpr ⟨?_, ?_⟩)), ?_⟩
      refine dX (Row.eF (cs := bK I[k]) ⟨61, aO _ _ _⟩ fQ rfl (bQ q6)) (aT.2 ?_)
      exact ⟨rfl, q6, fun j hj => by rw [aH _ _ (by omega), oB j (by omega), q9 j (by omega), old7 j hj]⟩
section
variable {E : Env} {fn : FuncId} {rnd : Option Nat} {Q : dI} {ks : List Kf} {tm : List a9} {h : Hp} {n : Nat} {ops rest : List Oper} {d : Option Tmp}
theorem AS {j : Nat} {fs : List fM} {t : TypeId} {i : TI} (hi : ti E t = M.pure i) (hj : dD i.zero = false) (hf : aY h n)
    (hq : ∀ H, H n = some (.row (.l i.zero.cells) t) → (∀ k, k ≠ n → H k = h k) → aY H (n + 1) → Fe E fn rnd Q ks ops (j + 1) rest (bP tm d (.ptr n 0)) (⟨j, [], [], n, n + 1⟩ :: fs) H (n + 1)) : FeV E fn rnd Q ks ops j rest d tm fs (oS E t) h n := by
  simp only [oS, j8, hi, aB, alloc, hj]
  exact jO hi hf hq
theorem OH (hf : aY h n) : only (fun j => decide (j < n)) h = h := funext fun j => by
  by_cases c : j < n
  · exact fS (decide_eq_true c)
  · rw [hf j (by omega)]
    exact nJ (decide_eq_false c)
theorem IZ {j : Nat} {fs : List fM} {m : M a9} {Q1 : a9 → Hp → Nat → Prop} (hf : aY h n) (hw : Wp m h n Q1)
    (hq : ∀ v h' n' r w, n ≤ n' → aY h' n' → Q1 v h' n' → (∀ id, id ∈ r → id < n) → (∀ id, id ∈ w → id < n) → Fe E fn rnd Q ks ops (j + 1) rest (bP tm d v) (⟨j, r, w, n, n'⟩ :: fs) h' n') : FeV E fn rnd Q ks ops j rest d tm fs m h n := by
  refine vI (fun j => decide (j < n)) hf (Q0 := Q1) (by rw [OH hf]; exact hw) fun v h' n' r w hr hn hf' q h1 h2 h3 h4 => ?_
  have e : h' = hr := funext fun k => h1 k (by
    by_cases c : k < n
    · exact .inl (decide_eq_true c)
    · exact .inr (by omega))
  rw [← e] at q
  exact hq v h' n' r w hn hf' q (fun id hi => of_decide_eq_true (h3 id hi)) (fun id hi => of_decide_eq_true (h4 id hi))
end
def zD (z : Int) : Int := IntKind.u64.wrap z
def uF (v : Ver) (L : List Ver) : Bool := wL v || L.any fun w => decide (eR w v = 0)
def nF (L0 : List Ver) (tip : Int) : List Ver → List Ver → Int → Option (List Ver × Int)
  | [], L, t => some (L, t)
  | v :: vs, L, t => if (atV L0 v.aI v.pn tip).isSome || uF v L then none else nF L0 tip vs (nG L v) (zD (t + zD v.value))
def nU (z : Int) : List Spd → List Ver → Int → Option (List Ver × Int)
  | [], L, t => some (L, t)
  | p :: ps, L, t => match atV L p.aI p.pn z with
    | none => none
    | some w => if decide (w.bX = 0) && decide (1 ≤ z) && decide (w.made ≤ z) then nU z ps (sN L w (fY w z p.by_)) (zD (t - zD w.value)) else none
theorem AV {v : Ver} {L : List Ver} : uF v L = true ↔ CI v L := by
  unfold uF CI
  rw [Bool.or_eq_true, List.any_eq_true]
  constructor
  · rintro (h | ⟨a, h1, h2⟩)
    · exact .inl h
    · exact .inr ⟨a, h1, of_decide_eq_true h2⟩
  · rintro (h | ⟨a, h1, h2⟩)
    · exact .inl h
    · exact .inr ⟨a, h1, decide_eq_true h2⟩
theorem OZ (Q : dI) (ks : List Kf) (W K T : Nat → Prop) (s y c a b : Nat) (A : App) (mv sv : a9) (L0 : List Ver) (I : List Inf) (RES : Option (List Ver × Int)) (h0 : Hp) (n0 : Nat) (hKn : ∀ j, K j → j < n0) (hcK : K c)
    (hSt : ∀ h n, n0 ≤ n → (∀ j, K j → h j = h0 j) → St W h n s L0 I) (hAp : ∀ h, (∀ j, K j → h j = h0 j) → jT h a b A mv sv) (hb : b ≤ n0) (hrc : Row h0 c (aX A mv sv))
    (hpn : ∀ v ∈ A.made, 0 ≤ v.pn) (hsl : ∀ v ∈ A.made, v.aJ.length ≤ 1000000) (hI : I.length ≤ 1000000) (hL0 : L0.length ≤ 900000)
    (hT : ∀ (h : Hp) (n : Nat) (L : List Ver) (t : Int) (x2 x11 x13 x15 x16 x17 x22 x43 x51 x52 x53 x54 x80 : a9), RES = some (L, t) → (∀ j, K j → h j = h0 j) → Ixw K T h n y L → L.length ≤ 900000 → n0 ≤ n → aY h n →
      cV env 69 none Q ks (.exit 0) (.ptr s 0 :: .ptr y 0 :: x2 :: .int .u64 t :: a9.aA :: a9.aA :: .ptr c 0 :: a9.aA :: .int .u64 0 :: .bool false :: a9.aA :: x11 :: a9.aA :: x13 :: a9.aA :: x15 :: x16 :: x17 :: a9.aA :: mv :: .int .i64 (A.made.length : Nat) :: .int .i64 (A.made.length : Nat) :: x22 :: a9.aA :: a9.aA :: a9.aA :: a9.aA :: a9.aA :: a9.aA :: a9.aA :: a9.aA :: a9.aA :: a9.aA :: a9.aA :: a9.aA :: a9.aA :: a9.aA :: a9.aA :: a9.aA :: a9.aA :: a9.aA :: a9.aA :: a9.aA :: x43 :: a9.aA :: a9.aA :: a9.aA :: a9.aA :: a9.aA :: a9.aA :: a9.aA :: x51 :: x52 :: x53 :: x54 :: a9.aA :: a9.aA :: a9.aA :: a9.aA :: a9.aA :: a9.aA :: a9.aA :: a9.aA :: a9.aA :: a9.aA :: a9.aA :: a9.aA :: a9.aA :: a9.aA :: a9.aA :: a9.aA :: a9.aA :: a9.aA :: a9.aA :: a9.aA :: a9.aA :: a9.aA :: a9.aA :: a9.aA :: a9.aA :: x80 :: a9.aA :: a9.aA :: a9.aA :: a9.aA :: a9.aA :: a9.aA :: a9.aA :: []) h n)
    (hR : ∀ (h : Hp) (n : Nat) (x0 x1 x2 x3 x6 x11 x13 x15 x16 x17 x19 x20 x21 x22 x43 x51 x52 x53 x54 x80 : a9), RES = none → (∀ j, K j → h j = h0 j) → cV env 69 none Q ks .ret (x0 :: x1 :: x2 :: x3 :: a9.aA :: a9.aA :: x6 :: a9.aA :: .int .u64 0 :: .bool false :: a9.aA :: x11 :: a9.aA :: x13 :: a9.aA :: x15 :: x16 :: x17 :: a9.aA :: x19 :: x20 :: x21 :: x22 :: a9.aA :: a9.aA :: a9.aA :: a9.aA :: a9.aA :: a9.aA :: a9.aA :: a9.aA :: a9.aA :: a9.aA :: a9.aA :: a9.aA :: a9.aA :: a9.aA :: a9.aA :: a9.aA :: a9.aA :: a9.aA :: a9.aA :: a9.aA :: x43 :: a9.aA :: a9.aA :: a9.aA :: a9.aA :: a9.aA :: a9.aA :: a9.aA :: x51 :: x52 :: x53 :: x54 :: a9.aA :: a9.aA :: a9.aA :: a9.aA :: a9.aA :: a9.aA :: a9.aA :: a9.aA :: a9.aA :: a9.aA :: a9.aA :: a9.aA :: a9.aA :: a9.aA :: a9.aA :: a9.aA :: a9.aA :: a9.aA :: a9.aA :: a9.aA :: a9.aA :: a9.aA :: a9.aA :: a9.aA :: a9.aA :: x80 :: a9.aA :: a9.aA :: a9.aA :: a9.aA :: a9.aA :: a9.aA :: a9.aA :: []) h n) :
    ∀ (m i : Nat) (h : Hp) (n : Nat) (L : List Ver) (t : Int) (x2 x11 x13 x15 x16 x17 x22 x43 x51 x52 x53 x54 x80 : a9), i + m = A.made.length → nF L0 (((I.length : Nat) : Int) - 1) (A.made.drop i) L t = RES → (∀ j, K j → h j = h0 j) → Ixw K T h n y L → L.length + m ≤ 900000 → n0 ≤ n → aY h n →
      Run env 69 none Q (.loop G9) ks (.ptr s 0 :: .ptr y 0 :: x2 :: .int .u64 t :: a9.aA :: a9.aA :: .ptr c 0 :: a9.aA :: .int .u64 0 :: .bool false :: a9.aA :: x11 :: a9.aA :: x13 :: a9.aA :: x15 :: x16 :: x17 :: a9.aA :: mv :: .int .i64 (A.made.length : Nat) :: .int .i64 (i : Nat) :: x22 :: a9.aA :: a9.aA :: a9.aA :: a9.aA :: a9.aA :: a9.aA :: a9.aA :: a9.aA :: a9.aA :: a9.aA :: a9.aA :: a9.aA :: a9.aA :: a9.aA :: a9.aA :: a9.aA :: a9.aA :: a9.aA :: a9.aA :: a9.aA :: x43 :: a9.aA :: a9.aA :: a9.aA :: a9.aA :: a9.aA :: a9.aA :: a9.aA :: x51 :: x52 :: x53 :: x54 :: a9.aA :: a9.aA :: a9.aA :: a9.aA :: a9.aA :: a9.aA :: a9.aA :: a9.aA :: a9.aA :: a9.aA :: a9.aA :: a9.aA :: a9.aA :: a9.aA :: a9.aA :: a9.aA :: a9.aA :: a9.aA :: a9.aA :: a9.aA :: a9.aA :: a9.aA :: a9.aA :: a9.aA :: a9.aA :: x80 :: a9.aA :: a9.aA :: a9.aA :: a9.aA :: a9.aA :: a9.aA :: a9.aA :: []) h n := by
  intro m
  induction m with
  | zero =>
    intro i h n L t x2 x11 x13 x15 x16 x17 x22 x43 x51 x52 x53 x54 x80 hm hres hk hy hl hn hf
    have : i = A.made.length := by omega
    subst this
    rw [List.drop_length] at hres
    rw [bO]
    have hcc : ¬ (((A.made.length : Nat) : Int) < ((A.made.length : Nat) : Int)) := by omega
    simp only [G9, bC, Try.f69, Option.getD_some, fgr, bor, List.getD_cons_zero, hcc, gE]
    exact hT h n L t _ _ _ _ _ _ _ _ _ _ _ _ _ hres.symm hk hy (by omega) hn hf
  | succ m ih =>
    intro i h n L t x2 x11 x13 x15 x16 x17 x22 x43 x51 x52 x53 x54 x80 hm hres hk hy hl hn hf
    have ha := hAp h hk
    have hil : i < A.made.length := by omega
    have hcc : (((i : Nat) : Int) < ((A.made.length : Nat) : Int)) := by omega
    have w1 : IntKind.i64.wrap (((i : Nat) : Int) + 1) = ((i + 1 : Nat) : Int) := by rw [w64 (by omega) (by have := ha.ml; omega)]; omega
    obtain ⟨sw, va⟩ := ha.m.at_ hil
    rw [← List.getElem_cons_drop hil] at hres
    have hvm := List.getElem_mem hil
    have hpv := hpn _ hvm
    have hsv := hsl _ hvm
    generalize A.made[i] = v at *
    rw [bO]
    simp only [G9, bC, Try.f69, Option.getD_some, fgr, bor, List.getD_cons_zero, hcc, gE]
    rw [aE (ha.m.idx hil)]
    simp only [gE]
    rw [aE (va.all n)]
    simp only [gE]
    rw [bU cY rfl]
    simp only [cel, gE]
    have kd := va.s.kind
    refine cK (v := .agg (aK v sw)) cY rfl (aZ va.ok.h va.ok.b) (c8 kd.2.1) hf fun H1 r1 p1 f1 => ?_
    replace r1 : Row H1 n (aK v sw) := r1
    have O1 : Old h H1 n := fun j hj => p1 j (by omega)
    have k1 : ∀ j, K j → H1 j = h0 j := fun j q => by rw [p1 j (by have := hKn j q; omega)]; exact hk j q
    have y1 := hy.uC (n' := n + 1) (by omega) O1
    have s1 := hSt H1 (n + 1) (by omega) k1
    obtain ⟨x, lv, rs, ix, il, sa, sb, sc⟩ := s1
    simp only [bI, fgr, bP, aF]
    refine bW ⟨rfl, ?_⟩
    simp only [tyr, aR, Nat.reduceAdd, gE]
    rw [aW (rs.one (off := 0) rfl pD rfl)]
    simp only [tyr, aR, Nat.reduceAdd, gE]
    rw [aW (iL r1 va.ok)]
    simp only [hkr, Nat.reduceAdd, gE]
    rw [aW (T1 s x lv I H1 (n + 1) rs il hI)]
    simp only [hkr, Nat.reduceAdd, gE]
    refine IZ f1 (ab3 v.aI v.pn (((I.length : Nat) : Int) - 1) va.ok.h ix.k hL0 f1) fun v3 h3 n3 rr3 ww3 hn3 f3 ⟨o3, sA, e3, okA, bA, iA⟩ qr3 qw3 => ?_
    subst e3
    have csn : s < n3 := by have := sc s sb; omega
    have cr0 : ∀ id, id ∈ [s] → id < n3 ∨ n3 + 1 ≤ id := fun id q => by rw [List.mem_singleton] at q; omega
    have cr1 : ∀ id, id ∈ [n] → id < n3 ∨ n3 + 1 ≤ id := fun id q => by rw [List.mem_singleton] at q; omega
    have cr2 : ∀ id, id ∈ ([] : List Nat) → id < n3 ∨ n3 + 1 ≤ id := fun id q => by cases q
    have cr3 : ∀ id, id ∈ rr3 → id < n3 ∨ n3 + 1 ≤ id := fun id q => .inl (by have := qr3 id q; omega)
    have cw3 : ∀ id, id ∈ ww3 → id < n3 ∨ n3 + 1 ≤ id := fun id q => .inl (by have := qw3 id q; omega)
    simp only [Nat.reduceAdd, gE]
    refine AS cY rfl f3 fun H4 r4 o4 f4 => ?_
    simp only [Nat.reduceAdd, gE]
    refine jN (Row.write (v := .agg (aK ((atV L0 v.aI v.pn (((I.length : Nat) : Int) - 1)).getD noV) sA)) r4 cY (aZ okA.h okA.b) (by show 0 + 70 ≤ 70; omega) (c8 bA.kind.2.1)) ?_
    obtain ⟨H5, hH5⟩ : ∃ H5, H5 = upd H4 n3 (some (.row (.l (bV eK.i.zero.cells 0 (a9.agg (aK ((atV L0 v.aI v.pn (((I.length : Nat) : Int) - 1)).getD noV) sA)).cells)) 31)) := ⟨_, rfl⟩
    show Fe _ _ _ _ _ _ _ _ _ _ (upd H4 n3 (some (.row (.l (bV eK.i.zero.cells 0 (a9.agg (aK ((atV L0 v.aI v.pn (((I.length : Nat) : Int) - 1)).getD noV) sA)).cells)) 31))) _
    rw [← hH5]
    have o5 : ∀ j, j ≠ n3 → H5 j = h3 j := fun j hj => by rw [hH5, aH _ _ hj, o4 j hj]
    have f5 : aY H5 (n3 + 1) := by rw [hH5]; exact f4.upd (by omega)
    clear hH5
    simp only [fgr, Nat.reduceAdd, gE]
    refine ⟨(by (try simp (disch := first | assumption | omega) only [cJ, gF]); repeat' (first | rfl | exact (Bool.or_eq_true _ _).mpr (.inr rfl) | refine (Bool.and_eq_true _ _).mpr ⟨?_, ?_⟩)), ?_⟩
    have k5 : ∀ j, K j → H5 j = h0 j := fun j q => by have := hKn j q; rw [o5 j (by omega), o3 j (by omega)]; exact k1 j q
    have O5 : Old H1 H5 (n + 1) := fun j hj => by rw [o5 j (by omega), o3 j hj]
    have y5 := y1.old (n' := n3 + 1) (by omega) O5
    have r5 : Row H5 n (aK v sw) := r1.aM (O5 n (by omega))
    have b5 : Bytes H5 sw v.aJ := va.s.aM fun j q => by have := va.sn j q; rw [O5 j (by omega), O1 j (by omega)]
    cases hat : (atV L0 v.aI v.pn (((I.length : Nat) : Int) - 1)).isSome with
    | true =>
      have hnone : RES = none := by rw [← hres, nF, hat]; rfl
      simp only [fgr, bE, gE]
      exact hR _ _ _ _ _ _ _ _ _ _ _ _ _ _ _ _ _ _ _ _ _ _ hnone k5
    | false =>
    simp only [gE]
    rw [aE (dO r5 va.ok)]
    simp only [hkr, gE]
    refine aQ f5 (aQ9 v sw va.ok hpv hsv y5 b5 (fun j q => by have := va.sn j q; omega) (by omega) f5) fun v6 h6 n6 hn6 f6 ⟨k6, hh⟩ => ?_
    have k6' : ∀ j, K j → h6 j = h0 j := fun j q => by rw [k6 j (.inl q)]; exact k5 j q
    rcases hh with ⟨he, e6, y6⟩ | ⟨he, e6, y6⟩
    · subst e6
      have hnone : RES = none := by rw [← hres, nF, hat, AV.2 he]; rfl
      simp only [fgr, bor, bE, Int.reduceEq, gE]
      exact hR _ _ _ _ _ _ _ _ _ _ _ _ _ _ _ _ _ _ _ _ _ _ hnone k6'
    · subst e6
      have hne : uF v L = false := by
        cases e : uF v L with
        | false => rfl
        | true => exact absurd (AV.1 e) he
      rw [nF, hat, hne] at hres
      have r6 : Row h6 n (aK v sw) := r5.aM (k6 n (.inr ⟨Nat.le_refl _, by omega⟩))
      simp only [tyr, fgr, bor, bE, aR, gE]
      rw [aE (jY r6 va.ok)]
      simp only [tyr, fgr, lenOf, bor, bZ, convert, fT, pE, w1, gE]
      exact ih (i + 1) h6 n6 (nG L v) (zD (t + zD v.value)) _ _ _ _ _ _ _ _ _ _ _ _ _ (by omega) (by simpa using hres) k6' (y6.sub fun j q => .inl q) (by rw [DQ]; omega) (by omega) f6
theorem FA {L : List Ver} {aI : List UInt8} {pn z : Int} {w : Ver} (h : atV L aI pn z = some w) : w ∈ L ∧ w.aI = aI ∧ w.pn = pn ∧ dW w z = true := by
  unfold atV at h
  have hm := List.mem_of_getLast? h
  obtain ⟨h1, h2⟩ := List.mem_filter.1 hm
  rw [Bool.and_eq_true] at h2
  have h3 := h2.1
  unfold same at h3
  simp only [Bool.and_eq_true, decide_eq_true_eq, beq_iff_eq] at h3
  exact ⟨h1, h3.1, h3.2, h2.2⟩
theorem OY (Q : dI) (ks : List Kf) (K T : Nat → Prop) (y c a b : Nat) (A : App) (mv sv : a9) (RES : Option (List Ver × Int)) (h0 : Hp) (n0 : Nat) (hKn : ∀ j, K j → j < n0) (hcK : K c)
    (hAp : ∀ h, (∀ j, K j → h j = h0 j) → jT h a b A mv sv) (hrc : Row h0 c (aX A mv sv))
    (hT : ∀ (h : Hp) (n : Nat) (L : List Ver) (t : Int) (x0 x2 x11 x13 x15 x16 x17 x19 x20 x21 x22 x43 x54 x80 : a9), RES = some (L, t) → (∀ j, K j → h j = h0 j) → Ixw K T h n y L → n0 ≤ n → aY h n →
      cV env 69 none Q ks (.exit 2) (x0 :: .ptr y 0 :: x2 :: .int .u64 t :: a9.aA :: a9.aA :: .ptr c 0 :: a9.aA :: .int .u64 0 :: .bool false :: a9.aA :: x11 :: a9.aA :: x13 :: a9.aA :: x15 :: x16 :: x17 :: a9.aA :: x19 :: x20 :: x21 :: x22 :: a9.aA :: a9.aA :: a9.aA :: a9.aA :: a9.aA :: a9.aA :: a9.aA :: a9.aA :: a9.aA :: a9.aA :: a9.aA :: a9.aA :: a9.aA :: a9.aA :: a9.aA :: a9.aA :: a9.aA :: a9.aA :: a9.aA :: a9.aA :: x43 :: a9.aA :: a9.aA :: a9.aA :: a9.aA :: a9.aA :: a9.aA :: a9.aA :: sv :: .int .i64 (A.bR.length : Nat) :: .int .i64 (A.bR.length : Nat) :: x54 :: a9.aA :: a9.aA :: a9.aA :: a9.aA :: a9.aA :: a9.aA :: a9.aA :: a9.aA :: a9.aA :: a9.aA :: a9.aA :: a9.aA :: a9.aA :: a9.aA :: a9.aA :: a9.aA :: a9.aA :: a9.aA :: a9.aA :: a9.aA :: a9.aA :: a9.aA :: a9.aA :: a9.aA :: a9.aA :: x80 :: a9.aA :: a9.aA :: a9.aA :: a9.aA :: a9.aA :: a9.aA :: a9.aA :: []) h n)
    (hR : ∀ (h : Hp) (n : Nat) (x0 x1 x2 x3 x6 x11 x13 x15 x16 x17 x19 x20 x21 x22 x43 x51 x52 x53 x54 x80 : a9), RES = none → (∀ j, K j → h j = h0 j) → cV env 69 none Q ks .ret (x0 :: x1 :: x2 :: x3 :: a9.aA :: a9.aA :: x6 :: a9.aA :: .int .u64 0 :: .bool false :: a9.aA :: x11 :: a9.aA :: x13 :: a9.aA :: x15 :: x16 :: x17 :: a9.aA :: x19 :: x20 :: x21 :: x22 :: a9.aA :: a9.aA :: a9.aA :: a9.aA :: a9.aA :: a9.aA :: a9.aA :: a9.aA :: a9.aA :: a9.aA :: a9.aA :: a9.aA :: a9.aA :: a9.aA :: a9.aA :: a9.aA :: a9.aA :: a9.aA :: a9.aA :: a9.aA :: x43 :: a9.aA :: a9.aA :: a9.aA :: a9.aA :: a9.aA :: a9.aA :: a9.aA :: x51 :: x52 :: x53 :: x54 :: a9.aA :: a9.aA :: a9.aA :: a9.aA :: a9.aA :: a9.aA :: a9.aA :: a9.aA :: a9.aA :: a9.aA :: a9.aA :: a9.aA :: a9.aA :: a9.aA :: a9.aA :: a9.aA :: a9.aA :: a9.aA :: a9.aA :: a9.aA :: a9.aA :: a9.aA :: a9.aA :: a9.aA :: a9.aA :: x80 :: a9.aA :: a9.aA :: a9.aA :: a9.aA :: a9.aA :: a9.aA :: a9.aA :: []) h n) :
    ∀ (m i : Nat) (h : Hp) (n : Nat) (L : List Ver) (t : Int) (x0 x2 x11 x13 x15 x16 x17 x19 x20 x21 x22 x43 x54 x80 : a9), i + m = A.bR.length → nU A.bJ (A.bR.drop i) L t = RES → (∀ j, K j → h j = h0 j) → Ixw K T h n y L → L.length ≤ 900000 → n0 ≤ n → aY h n →
      Run env 69 none Q (.loop G8) ks (x0 :: .ptr y 0 :: x2 :: .int .u64 t :: a9.aA :: a9.aA :: .ptr c 0 :: a9.aA :: .int .u64 0 :: .bool false :: a9.aA :: x11 :: a9.aA :: x13 :: a9.aA :: x15 :: x16 :: x17 :: a9.aA :: x19 :: x20 :: x21 :: x22 :: a9.aA :: a9.aA :: a9.aA :: a9.aA :: a9.aA :: a9.aA :: a9.aA :: a9.aA :: a9.aA :: a9.aA :: a9.aA :: a9.aA :: a9.aA :: a9.aA :: a9.aA :: a9.aA :: a9.aA :: a9.aA :: a9.aA :: a9.aA :: x43 :: a9.aA :: a9.aA :: a9.aA :: a9.aA :: a9.aA :: a9.aA :: a9.aA :: sv :: .int .i64 (A.bR.length : Nat) :: .int .i64 (i : Nat) :: x54 :: a9.aA :: a9.aA :: a9.aA :: a9.aA :: a9.aA :: a9.aA :: a9.aA :: a9.aA :: a9.aA :: a9.aA :: a9.aA :: a9.aA :: a9.aA :: a9.aA :: a9.aA :: a9.aA :: a9.aA :: a9.aA :: a9.aA :: a9.aA :: a9.aA :: a9.aA :: a9.aA :: a9.aA :: a9.aA :: x80 :: a9.aA :: a9.aA :: a9.aA :: a9.aA :: a9.aA :: a9.aA :: a9.aA :: []) h n := by
  intro m
  induction m with
  | zero =>
    intro i h n L t x0 x2 x11 x13 x15 x16 x17 x19 x20 x21 x22 x43 x54 x80 hm hres hk hy hl hn hf
    have : i = A.bR.length := by omega
    subst this
    rw [List.drop_length] at hres
    rw [bO]
    have hcc : ¬ (((A.bR.length : Nat) : Int) < ((A.bR.length : Nat) : Int)) := by omega
    simp only [G8, bC, Try.f69, Option.getD_some, fgr, bor, List.getD_cons_zero, List.getD_cons_succ, hcc, gE]
    exact hT h n L t _ _ _ _ _ _ _ _ _ _ _ _ _ _ hres.symm hk hy hn hf
  | succ m ih =>
    intro i h n L t x0 x2 x11 x13 x15 x16 x17 x19 x20 x21 x22 x43 x54 x80 hm hres hk hy hl hn hf
    have ha := hAp h hk
    have hil : i < A.bR.length := by omega
    have hcc : (((i : Nat) : Int) < ((A.bR.length : Nat) : Int)) := by omega
    have w1 : IntKind.i64.wrap (((i : Nat) : Int) + 1) = ((i + 1 : Nat) : Int) := by rw [w64 (by omega) (by have := ha.sl; omega)]; omega
    obtain ⟨ok, hld⟩ := ha.s.all (n := n) hil
    rw [← List.getElem_cons_drop hil] at hres
    generalize A.bR[i] = v at *
    rw [bO]
    simp only [G8, bC, Try.f69, Option.getD_some, fgr, bor, List.getD_cons_zero, List.getD_cons_succ, hcc, gE]
    rw [aE (ha.s.idx hil)]
    simp only [gE]
    rw [aE hld]
    simp only [gE]
    rw [bU zE rfl]
    simp only [cel, gE]
    refine cK (v := .agg (eJ v)) zE rfl (lM ok) (sO v) hf fun H1 r1 p1 f1 => ?_
    replace r1 : Row H1 n (eJ v) := r1
    have O1 : Old h H1 n := fun j hj => p1 j (by omega)
    have k1 : ∀ j, K j → H1 j = h0 j := fun j q => by rw [p1 j (by have := hKn j q; omega)]; exact hk j q
    have y1 := hy.uC (n' := n + 1) (by omega) O1
    have rc1 : Row H1 c (aX A mv sv) := hrc.aM (k1 c hcK)
    simp only [tyr, fgr, aR, gE]
    rw [aE (wV r1 ok)]
    simp only [tyr, aR, gE]
    rw [aE (vQ rc1)]
    simp only [hkr, gE]
    refine aQ f1 (ab3 v.aI v.pn A.bJ ok.h y1.k hl f1) fun v3 h3 n3 hn3 f3 ⟨o3, sA, e3, okA, bA, iA⟩ => ?_
    subst e3
    simp only [gE]
    rw [bU cY rfl]
    simp only [cel, gE]
    refine cK (v := .agg (aK ((atV L v.aI v.pn A.bJ).getD noV) sA)) cY rfl (aZ okA.h okA.b) (c8 bA.kind.2.1) f3 fun H4 r4 p4 f4 => ?_
    replace r4 : Row H4 n3 (aK ((atV L v.aI v.pn A.bJ).getD noV) sA) := r4
    have O4 : Old H1 H4 (n + 1) := fun j hj => by rw [p4 j (by omega), o3 j hj]
    have k4 : ∀ j, K j → H4 j = h0 j := fun j q => by have := hKn j q; rw [O4 j (by omega)]; exact k1 j q
    have y4 := y1.old (n' := n3 + 1) (by omega) O4
    have s4 : Row H4 n (eJ v) := r1.aM (O4 n (by omega))
    have rc4 : Row H4 c (aX A mv sv) := hrc.aM (k4 c hcK)
    cases hat : atV L v.aI v.pn A.bJ with
    | none =>
      have hnone : RES = none := by rw [← hres, nU, hat]
      simp only [fgr, unOp, bE, Option.isSome_none, gE]
      exact hR _ _ _ _ _ _ _ _ _ _ _ _ _ _ _ _ _ _ _ _ _ _ hnone k4
    | some w =>
    rw [hat] at r4 okA
    simp only [Option.getD_some] at r4 okA
    obtain ⟨hwL, hwh, hwp, _⟩ := FA hat
    simp only [tyr, fgr, unOp, aR, Option.isSome_some, gE]
    rw [aE (wV s4 ok)]
    simp only [tyr, aR, gE]
    rw [aE (eX r4 okA)]
    simp only [tyr, aR, gE]
    rw [aE (vQ rc4)]
    simp only [tyr, aR, gE]
    rw [aE (SR s4 ok)]
    simp only [hkr, gE]
    have y4' := y4.uC (h' := H4) (n' := n3 + 1) (Nat.le_refl _) (Old.refl _ _)
    have y4c : Ixw (fun j => (K j ∨ (n ≤ j ∧ j < n + 1)) ∨ j = n3) T H4 (n3 + 1) y L := by
      have := (y1.old (n' := n3) hn3 o3).uC (h' := H4) (n' := n3 + 1) (by omega) (fun j hj => p4 j (by omega))
      exact this.sub fun j q => by
        rcases q with q | q
        · exact .inl q
        · exact .inr (by omega)
    refine aQ f4 (aQ7 v.aI v.pn w.made A.bJ v.by_ ok.h ok.b y4c hl f4) fun v6 h6 n6 hn6 f6 ⟨k6, hh⟩ => ?_
    have k6' : ∀ j, K j → h6 j = h0 j := fun j q => by rw [k6 j (.inl (.inl q))]; exact k4 j q
    rcases hh with ⟨he, e6, y6⟩ | ⟨w2, hw2, hk2, h1, h2, h3', e6, y6⟩
    · subst e6
      have hw := he w hwL (by rw [← hwh, ← hwp]; exact CA w)
      have hnone : RES = none := by
        rw [← hres, nU, hat]
        simp only
        rw [if_neg]
        simp only [Bool.and_eq_true, decide_eq_true_eq]
        omega
      simp only [fgr, bor, bE, Int.reduceEq, gE]
      exact hR _ _ _ _ _ _ _ _ _ _ _ _ _ _ _ _ _ _ _ _ _ _ hnone k6'
    · subst e6
      have hww : w2 = w := by
        refine kN hy.rL hw2 hwL ?_
        have e := AY hk2
        have : eR w2 (key w.aI w.pn w.made) = 0 := by rw [hwh, hwp]; exact hk2
        exact this
      subst hww
      rw [nU, hat] at hres
      simp only at hres
      rw [if_pos (by simp only [Bool.and_eq_true, decide_eq_true_eq]; omega)] at hres
      have r6 : Row h6 n3 (aK w2 sA) := r4.aM (k6 n3 (.inr rfl))
      simp only [tyr, fgr, bor, bE, aR, gE]
      rw [aE (jY r6 okA)]
      simp only [tyr, fgr, lenOf, bor, bZ, convert, fT, pE, w1, gE]
      exact ih (i + 1) h6 n6 (sN L w2 (fY w2 A.bJ v.by_)) (zD (t - zD w2.value)) _ _ _ _ _ _ _ _ _ _ _ _ _ _ (by omega) hres k6' (y6.sub fun j q => .inl (.inl q)) (by rw [DG]; exact hl) (by omega) f6
def wA (L0 : List Ver) (tip : Int) (A : App) (L : List Ver) (t : Int) : Option (List Ver × Int) := match nF L0 tip A.made L t with
  | some r => nU A.bJ A.bR r.1 r.2
  | none => none
theorem f69 (W K T : Nat → Prop) (s y a b : Nat) (A : App) (mv sv : a9) (L0 L : List Ver) (I : List Inf) (t : Int) (h : Hp) (n : Nat) (hy : Ixw K T h n y L) (hK : ∀ j, K j → j < n)
    (hSt : ∀ h' n', n ≤ n' → (∀ j, K j → h' j = h j) → St W h' n' s L0 I) (hAp : ∀ h', (∀ j, K j → h' j = h j) → jT h' a b A mv sv) (hb : b ≤ n)
    (hpn : ∀ v ∈ A.made, 0 ≤ v.pn) (hsl : ∀ v ∈ A.made, v.aJ.length ≤ 1000000) (hI : I.length ≤ 1000000) (hL0 : L0.length ≤ 900000) (hL : L.length + A.made.length ≤ 900000) (hf : aY h n) :
    Wp (bH env (aV env) 69 [.ptr s 0, .ptr y 0, .agg (aX A mv sv), .int .u64 t]) h n fun v' h' n' => (∀ j, K j → h' j = h j) ∧
      ((∃ L' t', wA L0 (((I.length : Nat) : Int) - 1) A L t = some (L', t') ∧ v' = .tup [.int .u64 t', .bool true] ∧ Ixw K T h' n' y L') ∨ (wA L0 (((I.length : Nat) : Int) - 1) A L t = none ∧ v' = .tup [.int .u64 0, .bool false])) := by
  have ha := hAp h fun j q => rfl
  refine aU aM4 aA6 ?_
  simp only [YX, Try.f69, Option.getD_some, List.replicate, Nat.reduceAdd, Nat.reduceSub, gE]
  refine cG (v := .agg (aX A mv sv)) mG rfl hf fun H1 r1 o1 f1 => ?_
  replace r1 : Row H1 n (aX A mv sv) := r1
  have y1 := hy.uC (n' := n + 1) (by omega) (fun j hj => o1 j (by omega))
  have y1' : Ixw (fun j => K j ∨ j = n) T H1 (n + 1) y L := y1.sub fun j q => q.elim .inl fun q => .inr (by omega)
  have kk : ∀ h' : Hp, (∀ j, (K j ∨ j = n) → h' j = H1 j) → ∀ j, K j → h' j = h j := fun h' q j w => by rw [q j (.inl w), o1 j (by have := hK j w; omega)]
  have a1 := hAp H1 (kk H1 fun j _ => rfl)
  simp only [tyr, fgr, aR, gE]
  rw [aE (mY r1 ha.b)]
  simp only [fgr, builtin, a1.m.len, gE]
  refine OZ _ _ W (fun j => K j ∨ j = n) T s y n a b A mv sv L0 I (nF L0 (((I.length : Nat) : Int) - 1) A.made L t) H1 (n + 1) (fun j q => by rcases q with q | q; have := hK j q; omega; omega) (.inr rfl) (fun h' n' q w => hSt h' n' (by omega) (kk h' w)) (fun h' w => hAp h' (kk h' w)) (by omega) r1 hpn hsl hI hL0 ?_ ?_ A.made.length 0 H1 (n + 1) L t _ _ _ _ _ _ _ _ _ _ _ _ _ (by omega) rfl (fun j _ => rfl) y1' (by omega) (Nat.le_refl _) f1
  · intro h2 n2 L2 t2 x2 x11 x13 x15 x16 x17 x22 x43 x51 x52 x53 x54 x80 hres k2 y2 hl2 hn2 f2
    have rc2 : Row h2 n (aX A mv sv) := r1.aM (k2 n (.inr rfl))
    have a2 := hAp h2 (kk h2 k2)
    simp only [tyr, aR, gE]
    rw [aE (vP rc2 ha.b)]
    simp only [fgr, builtin, a2.s.len, gE]
    refine OY _ _ (fun j => K j ∨ j = n) T y n a b A mv sv (nU A.bJ A.bR L2 t2) h2 n2 (fun j q => by rcases q with q | q; have := hK j q; omega; omega) (.inr rfl) (fun h' w => hAp h' (kk h' fun j q => (w j q).trans (k2 j q))) rc2 ?_ ?_ A.bR.length 0 h2 n2 L2 t2 _ _ _ _ _ _ _ _ _ _ _ _ _ _ (by omega) rfl (fun j _ => rfl) y2 hl2 (Nat.le_refl _) f2
    · intro h3 n3 L3 t3 x0 x2 x11 x13 x15 x16 x17 x19 x20 x21 x22 x43 x54 x80 hres3 k3 y3 hn3 f3
      simp only [fgr, gE]
      exact ⟨kk h3 fun j q => (k3 j q).trans (k2 j q), .inl ⟨L3, t3, by unfold wA; rw [hres]; exact hres3, rfl, y3.sub fun j q => .inl q⟩⟩
    · intro h3 n3 x0 x1 x2 x3 x6 x11 x13 x15 x16 x17 x19 x20 x21 x22 x43 x51 x52 x53 x54 x80 hres3 k3
      simp only [bI, nth, and_true, true_and]
      exact ⟨kk h3 fun j q => (k3 j q).trans (k2 j q), .inr (by unfold wA; rw [hres]; exact hres3)⟩
  · intro h3 n3 x0 x1 x2 x3 x6 x11 x13 x15 x16 x17 x19 x20 x21 x22 x43 x51 x52 x53 x54 x80 hres3 k3
    simp only [bI, nth, and_true, true_and]
    exact ⟨kk h3 k3, .inr (by unfold wA; rw [hres3])⟩
def jD (I : List Inf) : Inf := (I.getLast?).getD fW
theorem b61 : build env 61 [] = M.pure (.agg (bK fW)) := rfl
end Go.Am.Ytlgebaofkolkoaa
set_option linter.unusedSimpArgs false
set_option linter.unusedVariables false
set_option linter.defProp false
set_option maxRecDepth 10000
namespace Go.Am.Ytlgebaofkolkoaa
open Go Go.Am Go.Proofs
theorem f68 (s x : Nat) (lv : a9) (I : List Inf) (h : Hp) (n : Nat) (hr : Row h s [.ptr x 0, lv]) (hi : IL h lv I) (hs : s < n) (hlv : ∀ j, aP lv = some j → j < n) (hc : I.length ≤ 1000000) (hf : aY h n) :
    Wp (bH env (aV env) 68 [.ptr s 0]) h n fun v' h' n' => v' = .agg (bK (jD I)) ∧ (jD I).block.length = 32 ∧ Old h h' n := by
  refine aU aM5 aA7 ?_
  simp only [YY, Try.f68, Option.getD_some, List.replicate, Nat.reduceSub, gE]
  rw [bU fQ rfl]
  obtain ⟨H1, hH1⟩ : ∃ H1, H1 = upd h n (some (.row (.l (bK fW)) 61)) := ⟨_, rfl⟩
  have g1 : H1 n = some (.row (.l (bK fW)) 61) := by rw [hH1, aO]
  have o1 : ∀ j, j ≠ n → H1 j = h j := fun j hj => by rw [hH1, aH _ _ hj]
  have f1 : aY H1 (n + 1) := by rw [hH1]; exact hf.new
  show Ops _ _ _ _ _ _ _ _ (upd h n (some (.row (.l (bK fW)) 61))) _
  rw [← hH1]
  clear hH1
  have r1 : Row H1 s [.ptr x 0, lv] := hr.aM (o1 s (by omega))
  have i1 : IL H1 lv I := hi.aM fun j q => o1 j (by have := hlv j q; omega)
  simp only [tyr, fgr, aR, gE]
  rw [aE (r1.one (off := 1) rfl tH rfl)]
  simp only [fgr, builtin, bor, i1.len, gE]
  by_cases h0 : I.length = 0
  · have hI : I = [] := List.eq_nil_of_length_eq_zero h0
    subst hI
    simp only [Int.cast_ofNat_Int, b61, gE]
    rw [cR (Row.write (v := .agg (bK fW)) g1 fQ (bQ fI) (by rw [bQ fI]; show 0 + 37 ≤ 37; omega) (dR _))]
    rw [dC (by rfl)]
    simp only [bI, fgr, bP, nth, aF, cel, true_and]
    refine dX (Row.eF (cs := bK fW) ⟨61, aO _ _ _⟩ fQ rfl (bQ fI)) (aT.2 ?_)
    exact ⟨rfl, fI, fun j hj => by rw [aH _ _ (by omega), o1 j (by omega)]⟩
  · have hb : (((I.length : Nat) : Int) == 0) = false := by rw [beq_eq_false_iff_ne]; omega
    have h0' : ¬ ((I.length : Nat) : Int) = 0 := by omega
    simp only [bI, decide_false, h0']
    have hil : I.length - 1 < I.length := by omega
    have w1 : IntKind.i64.wrap (((I.length : Nat) : Int) - 1) = ((I.length - 1 : Nat) : Int) := by rw [w64 (by omega) (by omega)]; omega
    have hlast : jD I = I[I.length - 1] := by
      unfold jD
      rw [List.getLast?_eq_getElem?, List.getElem?_eq_getElem hil]; rfl
    obtain ⟨bok, hld⟩ := i1.all (n := n + 1) hil
    rw [hlast]
    refine bW ⟨rfl, ?_⟩
    simp only [tyr, aR, Nat.reduceAdd, gE]
    rw [aW (r1.one (off := 1) rfl tH rfl)]
    simp only [tyr, aR, Nat.reduceAdd, gE]
    rw [aW (r1.one (off := 1) rfl tH rfl)]
    simp only [builtin, bor, bZ, Nat.reduceAdd, i1.len, w1, gE]
    rw [aW (i1.idx hil)]
    simp only [Nat.reduceAdd, gE]
    rw [aW hld]
    simp only [Nat.reduceAdd, gE]
    refine jN (Row.write (v := .agg (bK I[I.length - 1])) g1 fQ (bQ bok) (by rw [bQ fI]; show 0 + 37 ≤ 37; omega) (dR _)) ?_
    rw [dC (by show (bK _).length = _; rw [bQ bok, bQ fI])]
    simp only [mV, bI, fgr, bP, nth, aF, cel, Nat.reduceAdd, true_and]
    refine ⟨(by (try simp (disch := first | assumption | omega) only [cJ, gF]); repeat' (first | rfl | exact (Bool.or_eq_true _ _).mpr (.inr rfl) | refine (Bool.and_eq_true _ _).mpr ⟨?_, ?_⟩)), ?_⟩
    refine dX (Row.eF (cs := bK I[I.length - 1]) ⟨61, aO _ _ _⟩ fQ rfl (bQ bok)) (aT.2 ?_)
    exact ⟨rfl, bok, fun j hj => by rw [aH _ _ (by omega), o1 j (by omega)]⟩
def sW (z : Int) : Int := IntKind.i64.wrap z
def xP (t : Int) : Bool := decide (2100000000000000 < t)
def nK (I : List Inf) (A : App) (t : Int) : Inf := ⟨A.bJ, A.block, sW (sW ((jD I).jF + (A.made.length : Nat)) - (A.bR.length : Nat)), sW t, sW ((jD I).eD + A.eD), sW ((jD I).left + A.left)⟩
def eW (L : List Ver) (I : List Inf) (A : App) : Option (List Ver × List Inf) := match mC A && decide (A.bJ = ((I.length : Nat) : Int)) with
  | false => none
  | true => match wA L (((I.length : Nat) : Int) - 1) A L (zD (jD I).jJ) with
    | none => none
    | some r => match xP r.2 || xP (sW ((jD I).eD + A.eD)) || xP (sW ((jD I).left + A.left)) with
      | true => none
      | false => some (r.1, I ++ [nK I A r.2])
def HS (o : Option (List Ver × List Inf)) : Int := match o with
  | some _ => 0
  | none => 220
theorem AZ {A : App} (h : mC A = true) : ∀ v ∈ A.made, v.aJ.length ≤ 2000 ∧ oP A.bJ v = true := fun v hv => by
  obtain ⟨k, hk, rfl⟩ := List.mem_iff_getElem.1 hv
  unfold mC iU at h
  rw [Bool.and_eq_true, List.all_eq_true] at h
  have := h.2 k (List.mem_range.2 (by omega))
  unfold xX at this
  rw [if_pos hk] at this
  unfold KA at this
  rw [List.getElem?_eq_getElem hk] at this
  simp only [Bool.and_eq_true] at this
  refine ⟨?_, this.1⟩
  have := this.1
  unfold oP at this
  simp only [Bool.and_eq_true, decide_eq_true_eq] at this
  exact this.2
def i0 : a9 := .int .i64 0
theorem UG {i : Inf} (hb : i.block.length = 32) : build env 61 [(0, .int .i64 i.bJ), (1, .agg (i.block.map u8)), (2, .int .i64 i.jF), (3, .int .i64 i.jJ), (4, .int .i64 i.eD), (5, .int .i64 i.left)] = M.pure (.agg (bK i)) := by
  have hB : (a9.agg (i.block.map u8)).cells.length = 32 := by show (i.block.map u8).length = 32; rw [List.length_map, hb]
  have hB' : (i.block.map u8).length = 32 := by rw [List.length_map, hb]
  have e1 : ∀ pl : Nat → Option (Nat × Nat), pl 0 = some (0, 1) → pl 1 = some (1, 32) → pl 2 = some (33, 1) → pl 3 = some (34, 1) → pl 4 = some (35, 1) → pl 5 = some (36, 1) →
      fill pl uV.i.zero.cells [(0, .int .i64 i.bJ), (1, .agg (i.block.map u8)), (2, .int .i64 i.jF), (3, .int .i64 i.jJ), (4, .int .i64 i.eD), (5, .int .i64 i.left)] = some (bK i) := fun pl p0 p1 p2 p3 p4 p5 => by
    rw [show uV.i.zero.cells = [] ++ [i0] ++ (z32.map u8 ++ [i0, i0, i0, i0]) from rfl, gW p0 rfl rfl rfl rfl]
    rw [show [] ++ (a9.int .i64 i.bJ).cells ++ (z32.map u8 ++ [i0, i0, i0, i0]) = [.int .i64 i.bJ] ++ z32.map u8 ++ [i0, i0, i0, i0] from rfl, gW p1 rfl rfl hB rfl]
    rw [show [a9.int .i64 i.bJ] ++ (a9.agg (i.block.map u8)).cells ++ [i0, i0, i0, i0] = (.int .i64 i.bJ :: i.block.map u8) ++ [i0] ++ [i0, i0, i0] by simp [a9.cells], gW p2 (by simp [hb]) rfl rfl rfl]
    rw [show (a9.int .i64 i.bJ :: i.block.map u8) ++ (a9.int .i64 i.jF).cells ++ [i0, i0, i0] = (.int .i64 i.bJ :: i.block.map u8 ++ [.int .i64 i.jF]) ++ [i0] ++ [i0, i0] by simp [a9.cells], gW p3 (by simp [hb]) rfl rfl rfl]
    rw [show (a9.int .i64 i.bJ :: i.block.map u8 ++ [.int .i64 i.jF]) ++ (a9.int .i64 i.jJ).cells ++ [i0, i0] = (.int .i64 i.bJ :: i.block.map u8 ++ [.int .i64 i.jF, .int .i64 i.jJ]) ++ [i0] ++ [i0] by simp [a9.cells], gW p4 (by simp [hb]) rfl rfl rfl]
    rw [show (a9.int .i64 i.bJ :: i.block.map u8 ++ [.int .i64 i.jF, .int .i64 i.jJ]) ++ (a9.int .i64 i.eD).cells ++ [i0] = (.int .i64 i.bJ :: i.block.map u8 ++ [.int .i64 i.jF, .int .i64 i.jJ, .int .i64 i.eD]) ++ [i0] ++ [] by simp [a9.cells], gW p5 (by simp [hb]) rfl rfl rfl]
    simp only [fill, bK, a9.cells]
    simp
  have e2 : build env 61 [(0, .int .i64 i.bJ), (1, .agg (i.block.map u8)), (2, .int .i64 i.jF), (3, .int .i64 i.jJ), (4, .int .i64 i.eD), (5, .int .i64 i.left)] = (fV "build" (fill ([(0, 1), (1, 32), (33, 1), (34, 1), (35, 1), (36, 1)][·]?) uV.i.zero.cells [(0, .int .i64 i.bJ), (1, .agg (i.block.map u8)), (2, .int .i64 i.jF), (3, .int .i64 i.jJ), (4, .int .i64 i.eD), (5, .int .i64 i.left)])).bind fun cs => M.pure (.agg cs) := rfl
  rw [e2, e1 _ rfl rfl rfl rfl rfl rfl]
  rfl
theorem aR5 {X : List a9} (hX : X.length = 37) : buildSlice env 57 1 [(0, .agg X)] = (newRow env 61 X).bind fun id => M.pure (.sl id 0 1 (some 1) 37) := by
  have e1 : fill (fun k => some (k * 37, 37)) (eY uV.i.zero.cells 1) [(0, .agg X)] = some X := by
    have : eY uV.i.zero.cells 1 = [] ++ uV.i.zero.cells ++ [] := rfl
    rw [this, gW (off := 0) (sz := 37) (pre := []) (mid := uV.i.zero.cells) (fA := []) (v := .agg X) (rest := []) rfl rfl rfl hX rfl]
    simp [fill, a9.cells]
  have e2 : buildSlice env 57 1 [(0, .agg X)] = (fV "buildSlice" (fill (fun k => some (k * 37, 37)) (eY uV.i.zero.cells 1) [(0, .agg X)])).bind fun cs => (newRow env 61 cs).bind fun id => M.pure (.sl id 0 1 (some 1) 37) := rfl
  rw [e2, e1]
  rfl
theorem f19 {W : Nat → Prop} {h : Hp} {n s : Nat} {L : List Ver} {I : List Inf} (q : St W h n s L I) (A : App) (mv sv : a9) (a b : Nat) (ha : jT h a b A mv sv) (hb : b ≤ n) (haW : ∀ j, a ≤ j → j < b → ¬ W j)
    (hpn : ∀ v ∈ A.made, 0 ≤ v.pn) (hI : I.length ≤ 900000) (hL : L.length + A.made.length ≤ 900000) (hf : aY h n) :
    Wp (bH env (aV env) 19 [.ptr s 0, .agg (aX A mv sv)]) h n fun v' h' n' => v' = .int .i64 (HS (eW L I A)) ∧ (∀ j, j < n → j ≠ s → h' j = h j) ∧ St W h' n' s ((eW L I A).getD (L, I)).1 ((eW L I A).getD (L, I)).2 := by
  have sn := q.sn
  refine aU aP4 aD6 ?_
  simp only [ZQ, Try.f19, Option.getD_some, List.replicate, Nat.reduceAdd, Nat.reduceSub, gE]
  refine cG (v := .agg (aX A mv sv)) mG rfl hf fun H1 r1 o1 f1 => ?_
  replace r1 : Row H1 n (aX A mv sv) := r1
  have O1 : Old h H1 n := fun j hj => o1 j (by omega)
  have q1 := q.old (n' := n + 1) (by omega) O1
  have a1 : jT H1 a b A mv sv := ha.aM fun j _ w => O1 j (by omega)
  obtain ⟨x, lv, rs, ix, il, sa, sb, sc⟩ := q1
  simp only [fgr, hkr, gE]
  refine dA (f66 s x lv H1 (n + 1) rs) ?_
  simp only [fgr, gE]
  refine bW ⟨rfl, ?_⟩
  simp only [gE]
  rw [aW (mF r1 ha.b)]
  simp only [hkr, gE]
  refine cU f1 (f67 A mv sv a b H1 (n + 1) a1 (by omega) f1) fun v2 h2 n2 rr2 ww2 hn2 f2 ⟨e2, o2⟩ => ?_
  subst e2
  have k2 : ∀ j, j < n → h2 j = h j := fun j hj => by rw [o2 j (by omega), O1 j hj]
  have r2 : Row h2 n (aX A mv sv) := r1.aM (o2 n (by omega))
  have q2 := q.old (n' := n2) (by omega) (fun j hj => k2 j hj)
  cases hck : mC A with
  | false =>
    have hno : eW L I A = none := by unfold eW; rw [hck]; rfl
    rw [hno]
    simp only [fgr, bor, bE, Nat.reduceAdd, ↓reduceIte, Int.reduceEq, reduceCtorEq, gE]
    refine ⟨(by (try simp (disch := first | assumption | omega) only [cJ, gF]); repeat' (first | rfl | exact (Bool.or_eq_true _ _).mpr (.inr rfl) | refine (Bool.and_eq_true _ _).mpr ⟨?_, ?_⟩)), ?_⟩
    exact ⟨rfl, fun j hj _ => k2 j hj, q2⟩
  | true =>
  obtain ⟨x, lv, rs, ix, il, sa, sb, sc⟩ := q2
  have w1 : IntKind.i64.wrap (((I.length : Nat) : Int) - 1 + 1) = ((I.length : Nat) : Int) := by rw [w64 (by omega) (by omega)]; omega
  simp only [tyr, bor, aR, Nat.reduceAdd, ↓reduceIte, gE]
  rw [aW (vQ r2)]
  simp only [hkr, Nat.reduceAdd, gE]
  rw [aW (T1 s x lv I h2 n2 rs il (by omega))]
  simp only [fgr, bor, bZ, bE, Nat.reduceAdd, decide_not, w1, gE]
  by_cases hh : A.bJ = ((I.length : Nat) : Int)
  · simp only [tyr, aR, hh, gE]
    refine ⟨(by (try simp (disch := first | assumption | omega) only [cJ, gF]); repeat' (first | rfl | exact (Bool.or_eq_true _ _).mpr (.inr rfl) | refine (Bool.and_eq_true _ _).mpr ⟨?_, ?_⟩)), ?_⟩
    rw [aE (rs.one (off := 0) rfl pD rfl)]
    simp only [hkr, gE]
    have ixx := ix
    obtain ⟨⟨D0, M0, ixi, ixk, ixt⟩, ixg⟩ := ixx
    refine aQ f2 (f41 x L D0 M0 h2 n2 ixi (by omega) f2) fun v3 h3 n3 hn3 f3 ⟨y, M', e3, i3, hM, o3⟩ => ?_
    subst e3
    have y3 : Ixw (fun j => j < n2) W h3 n3 y L := ⟨⟨D0, M', i3, fun j hj => ⟨by omega, fun w => by have := hM j w; omega⟩, fun j hj => ⟨by have := (ixt j hj).1; omega, (ixt j hj).2⟩⟩, ixg⟩
    have rs3 := rs.aM (o3 s (by omega))
    have il3 : IL h3 lv I := il.aM fun j w => o3 j (by have := (sa j w).1; omega)
    simp only [hkr, gE]
    refine aQ f3 (f68 s x lv I h3 n3 rs3 il3 (by omega) (fun j w => by have := (sa j w).1; omega) (by omega) f3) fun v4 h4 n4 hn4 f4 ⟨e4, lb, o4⟩ => ?_
    subst e4
    simp only [gE]
    rw [bU fQ rfl]
    simp only [cel, gE]
    refine cK (v := .agg (bK (jD I))) fQ rfl (bQ lb) (dR _) f4 fun H5 r5 o5 f5 => ?_
    replace r5 : Row H5 n4 (bK (jD I)) := r5
    have O35 : Old h3 H5 n3 := fun j hj => by rw [o5 j (by omega), o4 j hj]
    have y5 := y3.uC (n' := n4 + 1) (by omega) O35
    have K5 : ∀ j, j < n → H5 j = h j := fun j hj => by rw [O35 j (by omega), o3 j (by omega), k2 j hj]
    have r25 : Row H5 n (aX A mv sv) := r2.aM (by rw [O35 n (by omega), o3 n (by omega)])
    simp only [fgr, gE]
    rw [aE (mF r25 ha.b)]
    simp only [tyr, aR, gE]
    rw [aE (Row.one (off := 34) r5 (lY lb 1) ti2 rfl)]
    simp only [tyr, hkr, lenOf, bZ, convert, fT, pE, gE]
    have KK : ∀ h' : Hp, (∀ j, (j < n2 ∨ (n3 ≤ j ∧ j < n4 + 1)) → h' j = H5 j) → ∀ j, j < n → h' j = h j := fun h' w j hj => by rw [w j (.inl (by omega)), K5 j hj]
    refine aQ f5 (f69 W (fun j => j < n2 ∨ (n3 ≤ j ∧ j < n4 + 1)) W s y a b A mv sv L L I (zD (jD I).jJ) H5 (n4 + 1) y5 (fun j w => by omega) (fun h' n' hn' w => q.old (by omega) fun j hj => KK h' w j hj) (fun h' w => ha.aM fun j _ q => KK h' w j (by omega)) (by omega) hpn (fun v hv => by have := (AZ hck v hv).1; omega) (by omega) (by omega) hL f5) fun v6 h6 n6 hn6 f6 ⟨k6, hd⟩ => ?_
    have r26 : Row h6 n (aX A mv sv) := r25.aM (k6 n (.inl (by omega)))
    have r56 : Row h6 n4 (bK (jD I)) := r5.aM (k6 n4 (.inr (by omega)))
    have q6 := q.old (n' := n6) (by omega) (KK h6 k6)
    have w8 : ∀ u v : Int, IntKind.i64.wrap (u + v) = sW (u + v) := fun u v => rfl
    rcases hd with ⟨L', t', hd, e6, y6⟩ | ⟨hd, e6⟩
    · subst e6
      simp only [fgr, gE]
      refine bW ⟨rfl, ?_⟩
      simp only [tyr, aR, gE]
      rw [aW (Row.one (off := 35) r56 (lY lb 2) ti2 rfl)]
      simp only [tyr, aR, Nat.reduceAdd, gE]
      rw [aW (CV r26 ha.b)]
      simp only [tyr, bor, bZ, aR, Nat.reduceAdd, gE]
      rw [aW (Row.one (off := 36) r56 (lY lb 3) ti2 rfl)]
      simp only [tyr, aR, Nat.reduceAdd, gE]
      rw [aW (CU r26 ha.b)]
      simp only [fgr, bor, bZ, unOp, bE, Nat.reduceAdd, gt_iff_lt, gE]
      refine ⟨(by (try simp (disch := first | assumption | omega) only [cJ, gF]); repeat' (first | rfl | exact (Bool.or_eq_true _ _).mpr (.inr rfl) | refine (Bool.and_eq_true _ _).mpr ⟨?_, ?_⟩)), ?_⟩
      by_cases c1 : 2100000000000000 < t'
      · have hno : eW L I A = none := by unfold eW xP; rw [hck, decide_eq_true hh, hd]; simp only [Bool.and_self]; rw [decide_eq_true c1]; rfl
        rw [hno]
        simp only [fgr, bE, c1, gE]
        exact ⟨rfl, fun j hj _ => KK h6 k6 j hj, q6⟩
      simp only [bor, bE, gt_iff_lt, c1, gE]
      by_cases c2 : 2100000000000000 < IntKind.i64.wrap ((jD I).eD + A.eD)
      · have hno : eW L I A = none := by unfold eW xP sW; rw [hck, decide_eq_true hh, hd]; simp only [Bool.and_self]; rw [decide_eq_true c2]; simp only [Bool.or_true, Bool.true_or]
        rw [hno]
        simp only [fgr, bE, c2, gE]
        exact ⟨rfl, fun j hj _ => KK h6 k6 j hj, q6⟩
      simp only [fgr, bor, bE, gt_iff_lt, c2, gE]
      by_cases c3 : 2100000000000000 < IntKind.i64.wrap ((jD I).left + A.left)
      · have hno : eW L I A = none := by unfold eW xP sW; rw [hck, decide_eq_true hh, hd]; simp only [Bool.and_self]; rw [decide_eq_true c3]; simp only [Bool.or_true]
        rw [hno]
        simp only [fgr, c3, gE]
        exact ⟨rfl, fun j hj _ => KK h6 k6 j hj, q6⟩
      have hyes : eW L I A = some (L', I ++ [nK I A t']) := by unfold eW xP sW; rw [hck, decide_eq_true hh, hd]; simp only [Bool.and_self]; rw [decide_eq_false c1, decide_eq_false c2, decide_eq_false c3]; rfl
      rw [hyes]
      obtain ⟨x6, lv6, rs6, ix6, il6, sa6, sb6, sc6⟩ := q6
      obtain ⟨et, hs6⟩ := rs6
      simp only [tyr, aR, c3, gE]
      rw [cR (Row.write (off := 0) (v := .ptr y 0) hs6 pD rfl (by show 0 + 1 ≤ 2; omega) rfl)]
      obtain ⟨h7, hh7⟩ : ∃ h7, h7 = upd h6 s (some (.row (.l [.ptr y 0, lv6]) et)) := ⟨_, rfl⟩
      show Ops _ _ _ _ _ _ _ _ (upd h6 s (some (.row (.l [.ptr y 0, lv6]) et))) _
      rw [← hh7]
      have s7 : h7 s = some (.row (.l [.ptr y 0, lv6]) et) := by rw [hh7, aO]
      have o7 : ∀ j, j ≠ s → h7 j = h6 j := fun j hj => by rw [hh7, aH _ _ hj]
      have f7 : aY h7 n6 := by rw [hh7]; exact f6.upd (by omega)
      clear hh7
      have r27 : Row h7 n (aX A mv sv) := r26.aM (o7 n (by omega))
      have r57 : Row h7 n4 (bK (jD I)) := r56.aM (o7 n4 (by omega))
      have il7 : IL h7 lv6 I := il6.aM fun j w => o7 j (fun e => (sa6 j w).2 (by rw [e]; exact sb6))
      simp only [bI, fgr, bP, aF]
      refine bW ⟨rfl, ?_⟩
      simp only [tyr, aR, Nat.reduceAdd, gE]
      rw [aW (Row.one (off := 1) ⟨et, s7⟩ rfl tH rfl)]
      simp only [hkr, Nat.reduceAdd, gE]
      refine qG f7 (f70 lv6 I h7 (fun _ => none) n6 il7) (f70 lv6 I h7 h7 n6 il7) fun v8 h8 n8 hn8 f8 ⟨e8, eh8, en8⟩ => ?_
      subst e8; subst eh8; subst en8
      simp only [tyr, aR, Nat.reduceAdd, gE]
      rw [aW (vQ r27)]
      simp only [tyr, aR, Nat.reduceAdd, gE]
      rw [aW (UR r27 ha.b)]
      simp only [tyr, aR, Nat.reduceAdd, gE]
      rw [aW (Row.one (off := 33) r57 (lY lb 0) ti3 rfl)]
      simp only [tyr, aR, Nat.reduceAdd, gE]
      rw [aW (mY r27 ha.b)]
      simp only [tyr, builtin, bor, bZ, aR, Nat.reduceAdd, ha.m.len, gE]
      rw [aW (vP r27 ha.b)]
      simp only [tyr, builtin, lenOf, bor, bZ, Nat.reduceAdd, ha.s.len, convert, fT, pE, gE]
      have hb61 : build env 61 [(0, .int .i64 A.bJ), (1, .agg (A.block.map u8)), (2, .int .i64 (IntKind.i64.wrap (IntKind.i64.wrap ((jD I).jF + (A.made.length : Nat)) - (A.bR.length : Nat)))), (3, .int .i64 (IntKind.i64.wrap t')), (4, .int .i64 (IntKind.i64.wrap ((jD I).eD + A.eD))), (5, .int .i64 (IntKind.i64.wrap ((jD I).left + A.left)))] = M.pure (.agg (bK (nK I A t'))) := UG (i := nK I A t') ha.b
      rw [hb61]
      simp only [Nat.reduceAdd, aR5 (X := bK (nK I A t')) (bQ (show (nK I A t').block.length = 32 from ha.b)), gE]
      refine jO fQ f7 fun H9 g9 o9 f9 => ?_
      simp only [builtin, Nat.reduceAdd, gE]
      obtain ⟨cells, c1, c2⟩ := il7
      have c1' := c1.aM (h' := H9) fun j w => o9 j (by have := (sa6 j w).1; omega)
      refine cU f9 (zC (i := uV.i) (k := 1) c1' (kY g9 (bQ (show (nK I A t').block.length = 32 from ha.b))) u57 u57 fQ (by omega) (by show 2 * (I.length + 1) * 72 ≤ _; omega) (by omega)) fun v10 h10 n10 rr10 ww10 hn10 f10 ⟨e10, eh10, en10⟩ => ?_
      subst e10; subst en10
      have o10 : ∀ j, j ≠ n8 + 1 → h10 j = H9 j := fun j hj => by rw [eh10, aH _ _ hj]
      have g10 : h10 (n8 + 1) = some (.row (.l (cells ++ bK (nK I A t'))) 61) := by rw [eh10, aO]
      clear eh10
      have s10 : h10 s = some (.row (.l [.ptr y 0, lv6]) et) := by rw [o10 s (by omega), o9 s (by omega)]; exact s7
      simp only [tyr, aR, Nat.reduceAdd, gE]
      refine jN (Row.write (off := 1) (v := .sl (n8 + 1) 0 (I.length + 1) none 37) s10 tH rfl (by show 1 + 1 ≤ 2; omega) rfl) ?_
      obtain ⟨hZ, hhZ⟩ : ∃ hZ, hZ = upd h10 s (some (.row (.l [.ptr y 0, .sl (n8 + 1) 0 (I.length + 1) none 37]) et)) := ⟨_, rfl⟩
      show Fe _ _ _ _ _ _ _ _ _ _ (upd h10 s (some (.row (.l [.ptr y 0, .sl (n8 + 1) 0 (I.length + 1) none 37]) et))) _
      rw [← hhZ]
      have sZ : Row hZ s [.ptr y 0, .sl (n8 + 1) 0 (I.length + 1) none 37] := ⟨et, by rw [hhZ, aO]⟩
      have oZ : ∀ j, j < n8 → j ≠ s → hZ j = h6 j := fun j h1 h2 => by rw [hhZ, aH _ _ h2, o10 j (by omega), o9 j (by omega), o7 j h2]
      have gZ : hZ (n8 + 1) = some (.row (.l (cells ++ bK (nK I A t'))) 61) := by rw [hhZ, aH _ _ (by omega)]; exact g10
      clear hhZ
      simp only [fgr, Nat.reduceAdd, gE]
      have q0 : ∀ id, id ∈ [s] → id < n8 ∨ n8 + 1 ≤ id := fun id w => by rw [List.mem_singleton] at w; omega
      have q1 : ∀ id, id ∈ [n] → id < n8 ∨ n8 + 1 ≤ id := fun id w => by rw [List.mem_singleton] at w; omega
      have q2 : ∀ id, id ∈ [n4] → id < n8 ∨ n8 + 1 ≤ id := fun id w => by rw [List.mem_singleton] at w; omega
      have q3 : ∀ id, id ∈ ([] : List Nat) → id < n8 ∨ n8 + 1 ≤ id := fun id w => by cases w
      refine ⟨(by (try simp (disch := first | assumption | omega) only [cJ, gF]); repeat' (first | rfl | exact (Bool.or_eq_true _ _).mpr (.inr rfl) | refine (Bool.and_eq_true _ _).mpr ⟨?_, ?_⟩)), ?_⟩
      obtain ⟨⟨D', M1, i6, kk6, tt6⟩, gg6⟩ := y6
      have cl : cells.length = I.length * 37 := c1.rds.length
      simp only [Option.getD_some]
      refine ⟨rfl, fun j h1 h2 => by rw [oZ j (by omega) h2, KK h6 k6 j h1], y, _, sZ, ⟨⟨D', M1, i6.oV (by omega) fun j h1 h2 => oZ j h1 fun e => ?_, fun j w => ?_, fun j w => ?_⟩, gg6⟩, ⟨cells ++ bK (nK I A t'), ?_, fun j hj => ?_⟩, fun j w => ?_, sb6, fun j w => ?_⟩
      · subst e
        rcases h2 with h2 | h2
        · exact (tt6 j sb6).2 h2
        · exact (kk6 j (.inl (by omega))).2 h2
      · have := sc6 j w
        refine ⟨by omega, (kk6 j (.inl ?_)).2⟩
        have := sc j w
        omega
      · have := sc6 j w
        exact ⟨by omega, (tt6 j w).2⟩
      · rw [List.length_append]
        exact C1 gZ (by rw [List.length_append, cl, bQ (show (nK I A t').block.length = 32 from ha.b)]; omega) (fun k w => by cases w)
      · rw [List.length_append] at hj
        by_cases hlt : j < I.length
        · rw [List.getElem_append_left hlt, List.drop_append_of_le_length (by omega), List.take_append_of_le_length (by rw [List.length_drop]; omega)]
          exact c2 j hlt
        · have : j = I.length := by simp at hj; omega
          subst this
          rw [← cl, List.drop_left, List.take_of_length_le (by rw [bQ (show (nK I A t').block.length = 32 from ha.b)]; omega)]
          simp only [List.getElem_append_right (Nat.le_refl _), Nat.sub_self, List.getElem_cons_zero]
          exact ⟨trivial, ha.b⟩
      · injection w with w
        refine ⟨by omega, fun ww => ?_⟩
        have := sc6 j ww
        omega
      · have := sc6 j w
        omega
    · subst e6
      have hno : eW L I A = none := by unfold eW; rw [hck, decide_eq_true hh, hd]; rfl
      rw [hno]
      simp only [fgr, gE]
      refine bW ⟨rfl, ?_⟩
      simp only [tyr, aR, gE]
      rw [aW (Row.one (off := 35) r56 (lY lb 2) ti2 rfl)]
      simp only [tyr, aR, Nat.reduceAdd, gE]
      rw [aW (CV r26 ha.b)]
      simp only [tyr, bor, bZ, aR, Nat.reduceAdd, gE]
      rw [aW (Row.one (off := 36) r56 (lY lb 3) ti2 rfl)]
      simp only [tyr, aR, Nat.reduceAdd, gE]
      rw [aW (CU r26 ha.b)]
      simp only [fgr, bor, bZ, unOp, bE, Nat.reduceAdd, gE]
      refine ⟨(by (try simp (disch := first | assumption | omega) only [cJ, gF]); repeat' (first | rfl | exact (Bool.or_eq_true _ _).mpr (.inr rfl) | refine (Bool.and_eq_true _ _).mpr ⟨?_, ?_⟩)), ?_⟩
      exact ⟨rfl, fun j hj _ => KK h6 k6 j hj, q6⟩
  · have hno : eW L I A = none := by unfold eW; rw [hck, decide_eq_false hh]; rfl
    rw [hno]
    simp only [fgr, hh, gE]
    refine ⟨(by (try simp (disch := first | assumption | omega) only [cJ, gF]); repeat' (first | rfl | exact (Bool.or_eq_true _ _).mpr (.inr rfl) | refine (Bool.and_eq_true _ _).mpr ⟨?_, ?_⟩)), ?_⟩
    exact ⟨rfl, fun j hj _ => k2 j hj, q.old (by omega) fun j hj => k2 j hj⟩
theorem IC {P S : List Ver} {w : Ver} (r : cQ false (P ++ w :: S)) : pos false (P ++ w :: S) w = P.length := by
  have hm : w ∈ P ++ w :: S := List.mem_append_right _ (List.mem_cons_self ..)
  obtain ⟨hp, hw⟩ := oF r (oE r w) hm
  have hl : P.length < (P ++ w :: S).length := by simp
  have hw2 : (P ++ w :: S)[P.length] = w := by simp
  have e0 : eR w w = 0 := pV.refl w
  rcases Nat.lt_trichotomy (pos false (P ++ w :: S) w) P.length with q | q | q
  · have := r.at_ hp hl q
    rw [hw, hw2] at this
    have : eR w w < 0 := this
    omega
  · exact q
  · have := r.at_ hl hp q
    rw [hw, hw2] at this
    have : eR w w < 0 := this
    omega
theorem QF {P S : List Ver} {w : Ver} (r : cQ false (P ++ w :: S)) : kX (P ++ w :: S) w = P ++ S := by
  unfold kX iI
  rw [IC r]
  simp
theorem BK {P S : List Ver} {w v : Ver} (r : cQ false (P ++ w :: S)) : sN (P ++ w :: S) w v = P ++ v :: S := by
  unfold sN
  rw [IC r]
  simp
def mA (z : Int) (v : Ver) : Option Ver := if z < v.made then none else if z < v.bX ∧ 0 < v.bX then some (fY v 0 z32) else some v
def fZ (z : Int) (L : List Ver) : List Ver := L.filterMap (mA z)
theorem QK {L : List Ver} {i : Nat} (h : i < L.length) (z : Int) : fZ z (L.take (i + 1)) = fZ z (L.take i) ++ (mA z L[i]).toList := by
  unfold fZ
  rw [hU h, List.filterMap_append]
  cases e : mA z L[i] <;> simp [e]
theorem IL.pre {h : Hp} {v : a9} {I : List Inf} (l : IL h v I) {k : Nat} (hk : k ≤ I.length) : IL h (kW 0 k v) (I.take k) := by
  obtain ⟨cells, c1, c2⟩ := l
  refine ⟨cells.take (k * 37), ?_, fun j hj => ?_⟩
  · rw [List.length_take, Nat.min_eq_left hk]
    exact c1.pre hk
  · rw [List.length_take] at hj
    obtain ⟨a, b⟩ := c2 j (by omega)
    rw [List.getElem_take]
    refine ⟨?_, b⟩
    rw [List.drop_take, List.take_take, Nat.min_eq_left (by omega)]
    exact a
theorem XS (Q : dI) (ks : List Kf) (K T : Nat → Prop) (v : a9) (s y n1 n2 : Nat) (z : Int) (L : List Ver) (h0 : Hp) (hKn : ∀ j, K j → j < n2) (hV : ∀ j, n1 ≤ j → j < n2 → K j) (hl : L.length ≤ 900000)
    (hv : VL h0 n1 n2 v L)
    (hT : ∀ (h : Hp) (n : Nat) (x4 x7 x8 x11 x29 x32 x43 : a9), (∀ j, K j → h j = h0 j) → Ixw K T h n y (fZ z L) → n2 ≤ n → aY h n →
      cV env 22 none Q ks (.exit 1) (.ptr s 0 :: .int .i64 z :: a9.aA :: a9.aA :: x4 :: .ptr y 0 :: a9.aA :: x7 :: x8 :: a9.aA :: a9.aA :: x11 :: a9.aA :: a9.aA :: a9.aA :: a9.aA :: a9.aA :: a9.aA :: a9.aA :: a9.aA :: a9.aA :: a9.aA :: a9.aA :: a9.aA :: a9.aA :: a9.aA :: v :: .int .i64 (L.length : Nat) :: .int .i64 (L.length : Nat) :: x29 :: a9.aA :: a9.aA :: x32 :: a9.aA :: a9.aA :: a9.aA :: a9.aA :: a9.aA :: a9.aA :: a9.aA :: a9.aA :: a9.aA :: a9.aA :: x43 :: a9.aA :: a9.aA :: a9.aA :: a9.aA :: a9.aA :: a9.aA :: a9.aA :: a9.aA :: a9.aA :: a9.aA :: a9.aA :: a9.aA :: a9.aA :: a9.aA :: a9.aA :: a9.aA :: a9.aA :: a9.aA :: a9.aA :: a9.aA :: a9.aA :: a9.aA :: a9.aA :: a9.aA :: a9.aA :: a9.aA :: a9.aA :: a9.aA :: a9.aA :: a9.aA :: a9.aA :: []) h n) :
    ∀ (m i : Nat) (h : Hp) (n : Nat) (x4 x7 x8 x11 x29 x32 x43 : a9), i + m = L.length → (∀ j, K j → h j = h0 j) → Ixw K T h n y (fZ z (L.take i) ++ L.drop i) → n2 ≤ n → aY h n →
      Run env 22 none Q (.loop GH) ks (.ptr s 0 :: .int .i64 z :: a9.aA :: a9.aA :: x4 :: .ptr y 0 :: a9.aA :: x7 :: x8 :: a9.aA :: a9.aA :: x11 :: a9.aA :: a9.aA :: a9.aA :: a9.aA :: a9.aA :: a9.aA :: a9.aA :: a9.aA :: a9.aA :: a9.aA :: a9.aA :: a9.aA :: a9.aA :: a9.aA :: v :: .int .i64 (L.length : Nat) :: .int .i64 (i : Nat) :: x29 :: a9.aA :: a9.aA :: x32 :: a9.aA :: a9.aA :: a9.aA :: a9.aA :: a9.aA :: a9.aA :: a9.aA :: a9.aA :: a9.aA :: a9.aA :: x43 :: a9.aA :: a9.aA :: a9.aA :: a9.aA :: a9.aA :: a9.aA :: a9.aA :: a9.aA :: a9.aA :: a9.aA :: a9.aA :: a9.aA :: a9.aA :: a9.aA :: a9.aA :: a9.aA :: a9.aA :: a9.aA :: a9.aA :: a9.aA :: a9.aA :: a9.aA :: a9.aA :: a9.aA :: a9.aA :: a9.aA :: a9.aA :: a9.aA :: a9.aA :: a9.aA :: a9.aA :: []) h n := by
  intro m
  induction m with
  | zero =>
    intro i h n x4 x7 x8 x11 x29 x32 x43 hm hk hy hn hf
    have : i = L.length := by omega
    subst this
    rw [List.take_length, List.drop_length, List.append_nil] at hy
    rw [bO]
    have hcc : ¬ (((L.length : Nat) : Int) < ((L.length : Nat) : Int)) := by omega
    simp only [GH, bC, Try.f22, Option.getD_some, fgr, bor, Int.reduceNeg, List.getD_cons_zero, hcc, gE]
    exact hT h n _ _ _ _ _ _ _ hk hy hn hf
  | succ m ih =>
    intro i h n x4 x7 x8 x11 x29 x32 x43 hm hk hy hn hf
    have hv' := hv.aM (h' := h) fun j a b => hk j (hV j a b)
    have hil : i < L.length := by omega
    have hcc : (((i : Nat) : Int) < ((L.length : Nat) : Int)) := by omega
    have w1 : IntKind.i64.wrap (((i : Nat) : Int) + 1) = ((i + 1 : Nat) : Int) := by rw [w64 (by omega) (by omega)]; omega
    obtain ⟨sw, va⟩ := hv'.at_ hil
    have hcs := QK hil z
    have hln : (fZ z (L.take i) ++ L.drop i).length ≤ 900000 := by
      have h1 : (fZ z (L.take i)).length ≤ (L.take i).length := List.length_filterMap_le _ _
      rw [List.length_append, List.length_drop]
      rw [List.length_take] at h1
      omega
    rw [← List.getElem_cons_drop hil] at hy hln
    generalize L[i] = w at *
    have ry := hy.rL
    have wy : w ∈ fZ z (L.take i) ++ w :: L.drop (i + 1) := List.mem_append_right _ (List.mem_cons_self ..)
    rw [bO]
    simp only [GH, bC, Try.f22, Option.getD_some, fgr, bor, Int.reduceNeg, List.getD_cons_zero, hcc, gE]
    rw [aE (hv'.idx hil)]
    simp only [gE]
    rw [aE (va.all n)]
    simp only [gE]
    rw [bU cY rfl]
    simp only [cel, gE]
    have kd := va.s.kind
    refine cK (v := .agg (aK w sw)) cY rfl (aZ va.ok.h va.ok.b) (c8 kd.2.1) hf fun H1 r1 p1 f1 => ?_
    replace r1 : Row H1 n (aK w sw) := r1
    have O1 : Old h H1 n := fun j hj => p1 j (by omega)
    have k1 : ∀ j, K j → H1 j = h0 j := fun j q => by rw [p1 j (by have := hKn j q; omega)]; exact hk j q
    have y1 := hy.old (n' := n + 1) (by omega) O1
    simp only [tyr, fgr, aR, gE]
    rw [aE (eX r1 va.ok)]
    by_cases c1 : z < w.made
    · have ec : mA z w = none := by unfold mA; rw [if_pos c1]
      rw [ec] at hcs
      simp only [Option.toList_none, List.append_nil] at hcs
      simp only [tyr, fgr, bor, aR, gt_iff_lt, c1, gE]
      rw [aE (iL r1 va.ok)]
      simp only [tyr, aR, gE]
      rw [aE (eX r1 va.ok)]
      simp only [hkr, gE]
      refine aQ f1 (aQ8 w.aI w.pn w.made va.ok.h y1 hln f1) fun v6 h6 n6 hn6 f6 ⟨k6, hh⟩ => ?_
      rcases hh with ⟨hno, _⟩ | ⟨w2, hw2, hk2, e6, y6⟩
      · exact absurd (CA w) (hno w wy)
      · subst e6
        have hww : w2 = w := kN ry hw2 wy hk2
        subst hww
        rw [QF ry, ← hcs] at y6
        simp only [fgr, bor, bZ, w1, gE]
        exact ih (i + 1) h6 n6 _ _ _ _ _ _ _ (by omega) (fun j q => by rw [k6 j q]; exact k1 j q) y6 (by omega) f6
    · simp only [tyr, fgr, bor, aR, gt_iff_lt, c1, gE]
      rw [aE (dB r1 va.ok)]
      by_cases c2 : z < w.bX
      · simp only [tyr, bor, aR, gt_iff_lt, c2, gE]
        rw [aE (dB r1 va.ok)]
        by_cases c3 : 0 < w.bX
        · have ec : mA z w = some (fY w 0 z32) := by unfold mA; rw [if_neg c1, if_pos ⟨c2, c3⟩]
          rw [ec] at hcs
          simp only [tyr, fgr, bor, bE, aR, gt_iff_lt, c3, gE]
          rw [aE (iL r1 va.ok)]
          simp only [tyr, aR, gE]
          rw [aE (eX r1 va.ok)]
          simp only [hkr, gE]
          refine aQ f1 (aQ6 w.aI w.pn w.made va.ok.h y1 hln f1) fun v6 h6 n6 hn6 f6 ⟨k6, hh⟩ => ?_
          rcases hh with ⟨hno, _⟩ | ⟨w2, hw2, hk2, h2, e6, y6⟩
          · have := hno w wy (CA w)
            omega
          · subst e6
            have hww : w2 = w := kN ry hw2 wy hk2
            subst hww
            rw [BK ry] at y6
            have e7 : fZ z (L.take i) ++ fY w2 0 z32 :: L.drop (i + 1) = fZ z (L.take (i + 1)) ++ L.drop (i + 1) := by rw [hcs]; simp
            rw [e7] at y6
            simp only [fgr, bor, bZ, w1, gE]
            exact ih (i + 1) h6 n6 _ _ _ _ _ _ _ (by omega) (fun j q => by rw [k6 j q]; exact k1 j q) y6 (by omega) f6
        · have ec : mA z w = some w := by unfold mA; rw [if_neg c1, if_neg (fun q => c3 q.2)]
          rw [ec] at hcs
          have e7 : fZ z (L.take i) ++ w :: L.drop (i + 1) = fZ z (L.take (i + 1)) ++ L.drop (i + 1) := by rw [hcs]; simp
          rw [e7] at y1
          simp only [fgr, bor, bZ, bE, gt_iff_lt, c3, w1, gE]
          exact ih (i + 1) H1 (n + 1) _ _ _ _ _ _ _ (by omega) k1 y1 (by omega) f1
      · have ec : mA z w = some w := by unfold mA; rw [if_neg c1, if_neg (fun q => c2 q.1)]
        rw [ec] at hcs
        have e7 : fZ z (L.take i) ++ w :: L.drop (i + 1) = fZ z (L.take (i + 1)) ++ L.drop (i + 1) := by rw [hcs]; simp
        rw [e7] at y1
        simp only [fgr, bor, bZ, bE, gt_iff_lt, c2, w1, gE]
        exact ih (i + 1) H1 (n + 1) _ _ _ _ _ _ _ (by omega) k1 y1 (by omega) f1
theorem f22 {W : Nat → Prop} {h : Hp} {n s : Nat} {L : List Ver} {I : List Inf} (q : St W h n s L I) (z : Int) (hI : I.length ≤ 900000) (hL : L.length ≤ 900000) (hf : aY h n) :
    Wp (bH env (aV env) 22 [.ptr s 0, .int .i64 z]) h n fun v' h' n' => (∀ j, j < n → j ≠ s → h' j = h j) ∧
      (((z < -1 ∨ ((I.length : Nat) : Int) - 1 < z) ∧ v' = .int .i64 221 ∧ St W h' n' s L I) ∨ (-1 ≤ z ∧ z ≤ ((I.length : Nat) : Int) - 1 ∧ v' = .int .i64 0 ∧ St W h' n' s (fZ z L) (I.take (z + 1).toNat))) := by
  have sn := q.sn
  have qq := q
  obtain ⟨x, lv, rs, ix, il, sa, sb, sc⟩ := qq
  refine aU aP1 aD3 ?_
  simp only [ZN, Try.f22, Option.getD_some, List.replicate, fgr, hkr, Nat.reduceAdd, Nat.reduceSub, Int.reduceNeg, gE]
  refine dA (f66 s x lv h n rs) ?_
  simp only [fgr, bor, Int.reduceNeg, gE]
  by_cases c1 : z < -1
  · simp only [fgr, bE, Int.reduceNeg, c1, gE]
    exact ⟨fun j _ _ => trivial, .inl ⟨.inl trivial, q⟩⟩
  simp only [hkr, Int.reduceNeg, c1, gE]
  rw [aE (T1 s x lv I h n rs il (by omega))]
  by_cases c2 : ((I.length : Nat) : Int) - 1 < z
  · simp only [fgr, bor, bE, Int.reduceNeg, gt_iff_lt, c2, gE]
    exact ⟨fun j _ _ => trivial, .inl ⟨.inr trivial, q⟩⟩
  simp only [tyr, fgr, bor, bE, aR, Int.reduceNeg, gt_iff_lt, c2, gE]
  rw [aE (rs.one (off := 0) rfl pD rfl)]
  simp only [hkr, Int.reduceNeg, gE]
  have ixx := ix
  obtain ⟨⟨D0, M0, ixi, ixk, ixt⟩, ixg⟩ := ixx
  refine aQ hf (f41 x L D0 M0 h n ixi (by omega) hf) fun v3 h3 n3 hn3 f3 ⟨y, M', e3, i3, hM, o3⟩ => ?_
  subst e3
  have y3 : Ixw (fun j => j < n) W h3 n3 y L := ⟨⟨D0, M', i3, fun j hj => ⟨by omega, fun w => by have := hM j w; omega⟩, fun j hj => ⟨by have := (ixt j hj).1; omega, (ixt j hj).2⟩⟩, ixg⟩
  simp only [fgr, hkr, Int.reduceNeg, gE]
  refine aQ f3 (ar5 y3.k hL f3) fun v4 h4 n4 hn4 f4 ⟨l4, o4⟩ => ?_
  have y4 := y3.uC hn4 o4
  simp only [fgr, builtin, Int.reduceNeg, l4.len, gE]
  refine XS _ _ (fun j => j < n ∨ (n3 ≤ j ∧ j < n4)) W v4 s y n3 n4 z L h4 (fun j w => by omega) (fun j a b => .inr ⟨a, b⟩) hL l4 ?_ L.length 0 h4 n4 _ _ _ _ _ _ _ (by omega) (fun j _ => rfl) (by simpa [fZ] using y4) (Nat.le_refl _) f4
  intro h5 n5 x4 x7 x8 x11 x29 x32 x43 k5 y5 hn5 f5
  have K5 : ∀ j, j < n → h5 j = h j := fun j hj => by rw [k5 j (.inl hj), o4 j (by omega), o3 j hj]
  have rs5 : Row h5 s [.ptr x 0, lv] := rs.aM (K5 s sn)
  have il5 : IL h5 lv I := il.aM fun j w => K5 j (sa j w).1
  have w1 : IntKind.i64.wrap (z + 1) = ((z + 1).toNat : Int) := by rw [w64 (by omega) (by omega)]; omega
  have hk : (z + 1).toNat ≤ I.length := by omega
  simp only [tyr, aR, Int.reduceNeg, gE]
  rw [aE (rs5.one (off := 1) rfl tH rfl)]
  simp only [opt, bor, bZ, Int.reduceNeg, w1, gE]
  have il5' := il5
  obtain ⟨cells, cc1, cc2⟩ := il5'
  rw [aE (cc1.rds.TW cc1.V0 u57 VJ rfl hk)]
  simp only [hkr, Int.reduceNeg, gE]
  refine aQ f5 (f71 (kW 0 (z + 1).toNat lv) (I.take (z + 1).toNat) h5 n5 (il5.pre hk) (by rw [List.length_take]; omega) f5) fun v6 h6 n6 hn6 f6 ⟨l6, i6, o6⟩ => ?_
  obtain ⟨et, hs6⟩ := rs5.aM (o6 s (by omega))
  simp only [tyr, aR, Int.reduceNeg, gE]
  rw [cR (Row.write (off := 0) (v := .ptr y 0) hs6 pD rfl (by show 0 + 1 ≤ 2; omega) rfl)]
  obtain ⟨h7, hh7⟩ : ∃ h7, h7 = upd h6 s (some (.row (.l [.ptr y 0, lv]) et)) := ⟨_, rfl⟩
  show Ops _ _ _ _ _ _ _ _ (upd h6 s (some (.row (.l [.ptr y 0, lv]) et))) _
  rw [← hh7]
  have s7 : h7 s = some (.row (.l [.ptr y 0, lv]) et) := by rw [hh7, aO]
  have o7 : ∀ j, j ≠ s → h7 j = h6 j := fun j hj => by rw [hh7, aH _ _ hj]
  clear hh7
  have k6 := l6.kind
  simp only [tyr, aR, Int.reduceNeg, gE]
  rw [cR (Row.write (off := 1) (v := v6) s7 tH (by rw [k6.1]; rfl) (by show 1 + 1 ≤ 2; omega) (by rw [k6.1]; simp [k6.2.1]))]
  rw [k6.1, show bV [a9.ptr y 0, lv] 1 [v6] = [a9.ptr y 0, v6] from rfl]
  obtain ⟨hZ, hhZ⟩ : ∃ hZ, hZ = upd h7 s (some (.row (.l [.ptr y 0, v6]) et)) := ⟨_, rfl⟩
  rw [← hhZ]
  have sZ : Row hZ s [.ptr y 0, v6] := ⟨et, by rw [hhZ, aO]⟩
  have oZ : ∀ j, j ≠ s → hZ j = h6 j := fun j h2 => by rw [hhZ, aH _ _ h2, o7 j h2]
  clear hhZ
  simp only [fgr, Int.reduceNeg, gE]
  obtain ⟨⟨D', M1, iy, kk6, tt6⟩, gg6⟩ := y5
  refine ⟨fun j h1 h2 => by rw [oZ j h2, o6 j (by omega), K5 j h1], .inr ⟨by omega, by omega, y, _, sZ, ⟨⟨D', M1, iy.oV (by omega) fun j h1 h2 => ?_, fun j w => ?_, fun j w => ?_⟩, gg6⟩, l6.aM fun j w => oZ j ?_, fun j w => ?_, sb, fun j w => ?_⟩⟩
  · rw [oZ j, o6 j h1]
    intro e
    subst e
    rcases h2 with h2 | h2
    · exact (tt6 j sb).2 h2
    · exact (kk6 j (.inl (by omega))).2 h2
  · have := sc j w
    exact ⟨by omega, (kk6 j (.inl this)).2⟩
  · have := sc j w
    exact ⟨by omega, (tt6 j w).2⟩
  · have := i6 j w
    omega
  · have := i6 j w
    refine ⟨by omega, fun ww => ?_⟩
    have := sc j ww
    omega
  · have := sc j w
    omega
theorem Ix.lt {h : Hp} {n x : Nat} {D M : Nat → Prop} {L : List Ver} (i : Ix h n D M x L) : ∀ j, (D j ∨ M j) → j < n := fun j w => by
  obtain ⟨⟨S, ⟨vl, vs, xl, xs, iv, mx, ml, ms, mn⟩, _⟩, _⟩ := i
  rcases w with w | w
  · exact iv.dn j w
  · exact (mn j w).1
theorem f28 {W : Nat → Prop} {h : Hp} {n s : Nat} {L : List Ver} {I : List Inf} (q : St W h n s L I) (hI : I.length ≤ 900000) (hL : L.length ≤ 900000) (hf : aY h n) :
    Wp (bH env (aV env) 28 [.ptr s 0]) h n fun v' h' n' => ∃ c, v' = .ptr c 0 ∧ n ≤ c ∧ St (fun j => W j ∨ j = c) h' n' c L I ∧ St (fun j => W j ∨ j = c) h' n' s L I ∧ Old h h' n := by
  have sn := q.sn
  obtain ⟨x, lv, rs, ix, il, sa, sb, sc⟩ := q
  refine aU aO6 aC8 ?_
  simp only [ZI, Try.f28, Option.getD_some, List.replicate, fgr, hkr, Nat.reduceSub, gE]
  refine dA (f66 s x lv h n rs) ?_
  simp only [bI, fgr, opd, bP, put, nth, aF]
  refine bW ⟨rfl, ?_⟩
  simp only [tyr, aR, Nat.reduceAdd, gE]
  rw [aW (rs.one (off := 0) rfl pD rfl)]
  simp only [hkr, Nat.reduceAdd, gE]
  obtain ⟨⟨D0, M0, ixi, ixk, ixt⟩, ixg⟩ := ix
  have ixs : Ix (only (fun j => decide (j ≠ s)) h) n D0 M0 x L := ixi.oV (Nat.le_refl _) fun j h1 h2 => fS (decide_eq_true fun e => by
    subst e
    rcases h2 with h2 | h2
    · exact (ixt j sb).2 h2
    · exact (ixk j sb).2 h2)
  refine vI (fun j => decide (j ≠ s)) hf (f41 x L D0 M0 _ n ixs (by omega) hf.only) fun v3 h3 n3 r3 w3 hr3 hn3 f3 ⟨y, M', e3, i3, hM, o3⟩ hin hout hr hw => ?_
  subst e3
  have O3 : Old h h3 n := fun j hj => by
    by_cases e : j = s
    · exact hout j hj (decide_eq_false (by simpa using e))
    · rw [hin j (.inl (decide_eq_true e)), o3 j hj, fS (decide_eq_true e)]
  have i3' : Ix h3 n3 D0 M' y L := i3.oV (Nat.le_refl _) fun j h1 h2 => by
    refine hin j ?_
    rcases h2 with h2 | h2
    · exact .inl (decide_eq_true fun e => (ixt s sb).2 (e ▸ h2))
    · exact .inr (hM j h2)
  have ns3 : s ∉ w3 := fun w => of_decide_eq_true (hw s w) rfl
  have rs3 := rs.aM (O3 s sn)
  simp only [tyr, aR, Nat.reduceAdd, gE]
  rw [aW (rs3.one (off := 1) rfl tH rfl)]
  have il3 : IL h3 lv I := il.aM fun j w => O3 j (sa j w).1
  simp only [hkr, Nat.reduceAdd, gE]
  refine cU f3 (f71 lv I h3 n3 il3 (by omega) f3) fun v4 h4 n4 r4 w4 hn4 f4 ⟨l4, i4, o4⟩ => ?_
  have k4 := l4.kind
  have b59 : build env 59 [(0, .ptr y 0), (1, v4)] = M.pure (.agg [.ptr y 0, v4]) := by
    obtain ⟨cells, c1, c2⟩ := l4
    generalize I.length = len at c1
    cases c1 <;> rfl
  simp only [Nat.reduceAdd, b59, gE]
  refine J0 (v := .agg [.ptr y 0, v4]) MG rfl f4 fun H5 r5 w5 g5 o5 f5 => ?_
  simp only [fgr, Nat.reduceAdd, gE]
  refine ⟨(by (try simp (disch := first | assumption | omega) only [cJ, gF]); repeat' (first | rfl | exact (Bool.or_eq_true _ _).mpr (.inr rfl) | refine (Bool.and_eq_true _ _).mpr ⟨?_, ?_⟩)), ?_⟩
  have O5 : ∀ j, j < n3 → H5 j = h3 j := fun j hj => by rw [o5 j (by omega), o4 j (by omega)]
  have old5 : Old h H5 n := fun j hj => by rw [O5 j (by omega), O3 j hj]
  have lt0 := ixi.lt
  have lt3 := i3'.lt
  have iZ : Ix H5 (n4 + 1) D0 M' y L := i3'.old (by omega) O5
  refine ⟨n4, rfl, by omega, ⟨y, v4, ⟨59, g5⟩, ⟨⟨D0, M', iZ, fun j w => ⟨?_, fun ww => ?_⟩, fun j w => ⟨?_, fun ww => ?_⟩⟩, ixg⟩, l4.aM fun j w => o5 j ?_, fun j w => ⟨?_, fun ww => ?_⟩, .inr rfl, fun j w => ?_⟩, ⟨x, lv, rs.aM (old5 s sn), ⟨⟨D0, M0, ixi.old (by omega) old5, fun j w => ⟨?_, fun ww => ?_⟩, fun j w => ⟨?_, fun ww => ?_⟩⟩, ixg⟩, il.aM fun j w => old5 j (sa j w).1, fun j w => ⟨?_, fun ww => ?_⟩, .inl sb, fun j w => ?_⟩, old5⟩
  · rcases w with w | w
    · have := sc j w; omega
    · omega
  · rcases w with w | w
    · have := sc j w; have := hM j ww; omega
    · have := lt3 j (.inr ww); omega
  · rcases w with w | w
    · have := sc j w; omega
    · omega
  · rcases w with w | w
    · exact (ixt j w).2 ww
    · have := lt3 j (.inl ww); omega
  · have := i4 j w; omega
  · have := i4 j w; omega
  · have := i4 j w
    rcases ww with ww | ww
    · have := sc j ww; omega
    · omega
  · rcases w with w | w
    · have := sc j w; omega
    · omega
  · rcases w with w | w
    · have := sc j w; omega
    · omega
  · rcases w with w | w
    · exact (ixk j w).2 ww
    · have := lt0 j (.inr ww); omega
  · rcases w with w | w
    · have := sc j w; omega
    · omega
  · rcases w with w | w
    · exact (ixt j w).2 ww
    · have := lt0 j (.inl ww); omega
  · have := (sa j w).1; omega
  · rcases ww with ww | ww
    · exact (sa j w).2 ww
    · have := (sa j w).1; omega
  · rcases w with w | w
    · have := sc j w; omega
    · omega
def asV (z : Int) (v : Ver) : Ver := if z < v.bX then fY v 0 z32 else v
theorem f62 (v : Ver) (sv : a9) (z : Int) (ov : v.Ok) (hs : sv.cells = [sv] ∧ bB sv = true ∧ dD sv = false) (h : Hp) (n : Nat) (hf : aY h n) :
    Wp (bH env (aV env) 62 [.agg (aK v sv), .int .i64 z]) h n fun v' h' n' => v' = .agg (aK (asV z v) sv) ∧ Old h h' n := by
  refine aU aM7 aA9 ?_
  simp only [Z0, Try.f62, Option.getD_some, List.replicate, Nat.reduceAdd, Nat.reduceSub, gE]
  refine cG (v := .agg (aK v sv)) cY rfl hf fun H1 r1 o1 f1 => ?_
  replace r1 : Row H1 n (aK v sv) := r1
  simp only [gE]
  rw [bU cY rfl]
  obtain ⟨H2, hH2⟩ : ∃ H2, H2 = upd H1 (n + 1) (some (.row (.l (aK noV .aN)) 31)) := ⟨_, rfl⟩
  have g2 : H2 (n + 1) = some (.row (.l (aK noV .aN)) 31) := by rw [hH2, aO]
  have o2 : ∀ j, j ≠ n + 1 → H2 j = H1 j := fun j hj => by rw [hH2, aH _ _ hj]
  show Ops _ _ _ _ _ _ _ _ (upd H1 (n + 1) (some (.row (.l (aK noV .aN)) 31))) _
  rw [← hH2]
  clear hH2
  obtain ⟨et, g1⟩ := r1.aM (o2 n (by omega))
  have old2 : Old h H2 n := fun j hj => by rw [o2 j (by omega), o1 j (by omega)]
  simp only [tyr, fgr, aR, gE]
  rw [aE (dB ⟨et, g1⟩ ov)]
  have fin : ∀ (u : Ver) (H : Hp), u.Ok → H n = some (.row (.l (aK u sv)) et) → H (n + 1) = some (.row (.l (aK noV .aN)) 31) → Old h H n → asV z v = u → Wp (load env 31 (.ptr n 0)) H (n + 1 + 1) fun w h' n' => w = .agg (aK u sv) ∧ h' = H ∧ n' = n + 1 + 1 := fun u H ou q1 q2 q3 q4 => (dO ⟨et, q1⟩ ou).wp
  by_cases c : z < v.bX
  · have ea : asV z v = fY v 0 z32 := by unfold asV; rw [if_pos c]
    rw [ea]
    simp only [tyr, fgr, bor, aR, gt_iff_lt, c, b25, gE]
    have hsp : bV (aK v sv) 37 [a9.int .i64 0] = aK { v with bX := 0 } sv := mS ov.h 0
    rw [cR (Row.write (off := 37) (v := .int .i64 0) g1 ti3 rfl (by rw [aZ ov.h ov.b]; show 37 + 1 ≤ 70; omega) rfl)]
    rw [show bV (aK v sv) 37 (a9.int .i64 0).cells = aK { v with bX := 0 } sv from hsp]
    obtain ⟨H3, hH3⟩ : ∃ H3, H3 = upd H2 n (some (.row (.l (aK { v with bX := 0 } sv)) et)) := ⟨_, rfl⟩
    rw [← hH3]
    have g3 : H3 n = some (.row (.l (aK { v with bX := 0 } sv)) et) := by rw [hH3, aO]
    have o3 : ∀ j, j ≠ n → H3 j = H2 j := fun j hj => by rw [hH3, aH _ _ hj]
    clear hH3
    have ov3 : Ver.Ok { v with bX := 0 } := ⟨ov.h, ov.b⟩
    have w2 : bV (aK { v with bX := 0 } sv) 38 (a9.agg (z32.map u8)).cells = aK (fY v 0 z32) sv := sL (w := { v with bX := 0 }) ov.h ov.b z32 rfl
    simp only [tyr, aR, gE]
    rw [cR (Row.write (off := 38) (v := .agg (z32.map u8)) g3 nC (by show (z32.map u8).length = 32; rfl) (by rw [aZ ov3.h ov3.b]; show 38 + 32 ≤ 70; omega) (by decide))]
    rw [w2]
    obtain ⟨H4, hH4⟩ : ∃ H4, H4 = upd H3 n (some (.row (.l (aK (fY v 0 z32) sv)) et)) := ⟨_, rfl⟩
    rw [← hH4]
    have g4 : H4 n = some (.row (.l (aK (fY v 0 z32) sv)) et) := by rw [hH4, aO]
    have o4 : ∀ j, j ≠ n → H4 j = H3 j := fun j hj => by rw [hH4, aH _ _ hj]
    clear hH4
    have ov4 : (fY v 0 z32).Ok := ⟨ov.h, rfl⟩
    simp only [fgr, gE]
    rw [aE (dO ⟨et, g4⟩ ov4)]
    simp only [gE]
    rw [cR (Row.write (off := 0) (v := .agg (aK (fY v 0 z32) sv)) (show H4 (n + 1) = some (.row (.l (aK noV .aN)) 31) by rw [o4 _ (by omega), o3 _ (by omega)]; exact g2) cY (aZ ov4.h ov4.b) (by show 0 + 70 ≤ 70; omega) (c8 hs.2.1))]
    rw [dC (by show (aK _ _).length = _; rw [aZ ov4.h ov4.b]; rfl)]
    simp only [bI, fgr, bP, nth, aF, cel, true_and]
    refine dX (Row.eF (cs := aK (fY v 0 z32) sv) ⟨31, aO _ _ _⟩ cY rfl (aZ ov4.h ov4.b)) (aT.2 ?_)
    exact ⟨rfl, fun j hj => by rw [aH _ _ (by omega), o4 j (by omega), o3 j (by omega), old2 j hj]⟩
  · have ea : asV z v = v := by unfold asV; rw [if_neg c]
    rw [ea]
    simp only [fgr, bor, gt_iff_lt, c, gE]
    rw [aE (dO ⟨et, g1⟩ ov)]
    simp only [gE]
    rw [cR (Row.write (off := 0) (v := .agg (aK v sv)) g2 cY (aZ ov.h ov.b) (by show 0 + 70 ≤ 70; omega) (c8 hs.2.1))]
    rw [dC (by show (aK _ _).length = _; rw [aZ ov.h ov.b]; rfl)]
    simp only [bI, fgr, bP, nth, aF, cel, true_and]
    refine dX (Row.eF (cs := aK v sv) ⟨31, aO _ _ _⟩ cY rfl (aZ ov.h ov.b)) (aT.2 ?_)
    exact ⟨rfl, fun j hj => by rw [aH _ _ (by omega), old2 j hj]⟩
def mB (L : List Ver) (I : List Inf) (aI : List UInt8) (pn z : Int) : Option Ver := match hO I z with
  | some _ => atV L aI pn z
  | none => none
theorem aS3 : build env 31 [] = M.pure (.agg (aK noV .aN)) := rfl
theorem S9 {v : Ver} (o : v.Ok) (z : Int) : (asV z v).Ok := by
  unfold asV
  split
  · exact ⟨o.h, rfl⟩
  · exact o
theorem oW (v : Ver) (z : Int) : (asV z v).aJ = v.aJ := by
  unfold asV
  split <;> rfl
theorem f15 {W : Nat → Prop} {h : Hp} {n s : Nat} {L : List Ver} {I : List Inf} (q : St W h n s L I) (aI : List UInt8) (pn z : Int) (hl : aI.length = 32) (hI : I.length ≤ 900000) (hL : L.length ≤ 900000) (hf : aY h n) :
    Wp (bH env (aV env) 15 [.ptr s 0, .agg (aS aI pn), .int .i64 z]) h n fun v' h' n' => Old h h' n ∧ ∃ s', v' = .tup [.agg (aK (((mB L I aI pn z).map (asV z)).getD noV) s'), .bool (mB L I aI pn z).isSome, .int .i64 (nQ (hO I z))] ∧ (((mB L I aI pn z).map (asV z)).getD noV).Ok ∧ Bytes h' s' (((mB L I aI pn z).map (asV z)).getD noV).aJ ∧ ∀ j, aP s' = some j → n ≤ j ∧ j < n' := by
  refine aU aP7 aD9 ?_
  simp only [ZT, Try.f15, Option.getD_some, List.replicate, Nat.reduceAdd, Nat.reduceSub, gE]
  refine cG (v := .agg (aS aI pn)) gG rfl hf fun H1 r1 o1 f1 => ?_
  replace r1 : Row H1 n (aS aI pn) := r1
  simp only [gE]
  rw [bU cY rfl]
  obtain ⟨H2, hH2⟩ : ∃ H2, H2 = upd H1 (n + 1) (some (.row (.l (aK noV .aN)) 31)) := ⟨_, rfl⟩
  have g2 : H2 (n + 1) = some (.row (.l (aK noV .aN)) 31) := by rw [hH2, aO]
  have o2 : ∀ j, j ≠ n + 1 → H2 j = H1 j := fun j hj => by rw [hH2, aH _ _ hj]
  have f2 : aY H2 (n + 1 + 1) := by rw [hH2]; exact f1.new
  show Ops _ _ _ _ _ _ _ _ (upd H1 (n + 1) (some (.row (.l (aK noV .aN)) 31))) _
  rw [← hH2]
  clear hH2
  have old2 : Old h H2 n := fun j hj => by rw [o2 j (by omega), o1 j (by omega)]
  have q2 := q.old (n' := n + 1 + 1) (by omega) old2
  simp only [fgr, hkr, gE]
  refine aQ f2 (f25 q2 z (by omega) f2) fun v3 h3 n3 hn3 f3 ⟨e3, ob3, o3⟩ => ?_
  subst e3
  have q3 := q2.old hn3 o3
  simp only [gE]
  rw [bU fQ rfl]
  simp only [cel, gE]
  refine cK (v := .agg (bK ((hO I z).getD fW))) fQ rfl (bQ ob3) (dR _) f3 fun H4 r4 o4 f4 => ?_
  have O4 : Old h3 H4 n3 := fun j hj => o4 j (by omega)
  have q4 := q3.old (n' := n3 + 1) (by omega) O4
  have OO : ∀ j, j < n + 1 + 1 → H4 j = H2 j := fun j hj => by rw [O4 j (by omega), o3 j hj]
  have g4 : H4 (n + 1) = some (.row (.l (aK noV .aN)) 31) := (OO _ (by omega)).trans g2
  cases hi : hO I z with
  | none =>
    have hc : mB L I aI pn z = none := by unfold mB; rw [hi]
    rw [hc]
    simp only [fgr, bor, Int.reduceEq, nQ, aS3, gE]
    rw [cR (Row.write (v := .agg (aK noV .aN)) g4 cY rfl (by show 0 + 70 ≤ 70; omega) (by decide))]
    rw [dC (by rfl)]
    simp only [fgr, cel, gE]
    refine dX (Row.eF (cs := aK noV .aN) ⟨31, aO _ _ _⟩ cY rfl rfl) (aT.2 ?_)
    exact ⟨fun j hj => by rw [aH _ _ (by omega), OO j (by omega), old2 j hj], .aN, rfl, OP, .aN, fun j w => by cases w⟩
  | some i =>
    have hc : mB L I aI pn z = atV L aI pn z := by unfold mB; rw [hi]
    rw [hc]
    obtain ⟨x, lv, rs, ix, il, sa, sb, sc⟩ := q4
    have r14 : Row H4 n (aS aI pn) := (r1.aM (o2 n (by omega))).aM (OO n (by omega))
    simp only [fgr, bor, nQ, gE]
    refine bW ⟨rfl, ?_⟩
    simp only [tyr, aR, Nat.reduceAdd, gE]
    rw [aW (rs.one (off := 0) rfl pD rfl)]
    simp only [Nat.reduceAdd, gE]
    have hld : Rd (load env 28 (.ptr n 0)) H4 (n3 + 1) [n] (.agg (aS aI pn)) := Row.eF r14 gG rfl (bM hl)
    rw [aW hld]
    simp only [hkr, Nat.reduceAdd, gE]
    refine IZ f4 (ab3 aI pn z hl ix.k hL f4) fun v5 h5 n5 rr5 ww5 hn5 f5 ⟨o5, sA, e5, okA, bA, iA⟩ qr5 qw5 => ?_
    subst e5
    have cr0 : ∀ id, id ∈ [s] → id < n5 ∨ n5 + 1 ≤ id := fun id w => by rw [List.mem_singleton] at w; have := sc s sb; omega
    have cr1 : ∀ id, id ∈ [n] → id < n5 ∨ n5 + 1 ≤ id := fun id w => by rw [List.mem_singleton] at w; omega
    have cr2 : ∀ id, id ∈ ([] : List Nat) → id < n5 ∨ n5 + 1 ≤ id := fun id w => by cases w
    have cr3 : ∀ id, id ∈ rr5 → id < n5 ∨ n5 + 1 ≤ id := fun id w => .inl (by have := qr5 id w; omega)
    have cw3 : ∀ id, id ∈ ww5 → id < n5 ∨ n5 + 1 ≤ id := fun id w => .inl (by have := qw5 id w; omega)
    obtain ⟨u, hu⟩ : ∃ u, u = (atV L aI pn z).getD noV := ⟨_, rfl⟩
    rw [← hu] at okA bA
    rw [← hu]
    simp only [Nat.reduceAdd, gE]
    refine AS cY rfl f5 fun H6 g6 o6 f6 => ?_
    simp only [Nat.reduceAdd, gE]
    refine jN (Row.write (v := .agg (aK u sA)) (show H6 n5 = some (.row (.l (aK noV .aN)) 31) from g6) cY (aZ okA.h okA.b) (by show 0 + 70 ≤ 70; omega) (c8 bA.kind.2.1)) ?_
    rw [dC (by show (aK _ _).length = _; rw [aZ okA.h okA.b]; rfl)]
    obtain ⟨H7, hH7⟩ : ∃ H7, H7 = upd H6 n5 (some (.row (.l (aK u sA)) 31)) := ⟨_, rfl⟩
    show Fe _ _ _ _ _ _ _ _ _ _ (upd H6 n5 (some (.row (.l (aK u sA)) 31))) _
    rw [← hH7]
    have r7 : Row H7 n5 (aK u sA) := ⟨31, by rw [hH7, aO]⟩
    have o7 : ∀ j, j ≠ n5 → H7 j = h5 j := fun j hj => by rw [hH7, aH _ _ hj, o6 j hj]
    have f7 : aY H7 (n5 + 1) := by rw [hH7]; exact f6.upd (by omega)
    clear hH7
    simp only [fgr, Nat.reduceAdd, gE]
    refine ⟨(by (try simp (disch := first | assumption | omega) only [cJ, gF]); repeat' (first | rfl | exact (Bool.or_eq_true _ _).mpr (.inr rfl) | refine (Bool.and_eq_true _ _).mpr ⟨?_, ?_⟩)), ?_⟩
    rw [aE (dO r7 okA)]
    simp only [hkr, gE]
    refine aQ f7 (f62 u sA z okA bA.kind H7 (n5 + 1) f7) fun v8 h8 n8 hn8 f8 ⟨e8, o8⟩ => ?_
    subst e8
    have okB := S9 okA z
    have g8 : h8 (n + 1) = some (.row (.l (aK noV .aN)) 31) := by rw [o8 _ (by omega), o7 _ (by omega), o5 _ (by omega)]; exact g4
    simp only [gE]
    rw [cR (Row.write (v := .agg (aK (asV z u) sA)) g8 cY (aZ okB.h okB.b) (by show 0 + 70 ≤ 70; omega) (c8 bA.kind.2.1))]
    rw [dC (by show (aK _ _).length = _; rw [aZ okB.h okB.b]; rfl)]
    simp only [fgr, cel, gE]
    refine dX (Row.eF (cs := aK (asV z u) sA) ⟨31, aO _ _ _⟩ cY rfl (aZ okB.h okB.b)) (aT.2 ?_)
    have eu : (((atV L aI pn z).map (asV z)).getD noV) = asV z u := by
      rw [hu]
      cases atV L aI pn z with
      | none =>
        show noV = asV z noV
        unfold asV
        split <;> rfl
      | some w => rfl
    rw [eu]
    refine ⟨fun j hj => by rw [aH _ _ (by omega), o8 j (by omega), o7 j (by omega), o5 j (by omega), OO j (by omega), old2 j hj], sA, rfl, okB, ?_, fun j w => ?_⟩
    · rw [oW]
      exact bA.aM fun j w => by
        have := iA j w
        rw [aH _ _ (by omega), o8 j (by omega), o7 j (by omega)]
    · have := iA j w
      omega
def BI (l : List Ver) : Int := l.foldl (fun n v => sW (n + v.value)) 0
theorem WX {l : List Ver} {i : Nat} (h : i < l.length) : BI (l.take (i + 1)) = sW (BI (l.take i) + l[i].value) := by
  unfold BI
  rw [hU h, List.foldl_append]; rfl
def zW (L : List Ver) (I : List Inf) (aJ : List UInt8) (z : Int) : Int := match hO I z with
  | some _ => BI (ofV L aJ z)
  | none => 0
theorem XO (Q : dI) (ks : List Kf) (v : a9) (a b : Nat) (l : List Ver) (h0 : Hp) (hl : l.length ≤ 900000) (hv : VL h0 a b v l)
    (hT : ∀ (h : Hp) (n : Nat) (x0 x1 x2 x9 x12 x20 x31 : a9), Old h0 h b → b ≤ n → aY h n → cV env 60 none Q ks (.exit 0) (x0 :: x1 :: x2 :: a9.aA :: a9.aA :: a9.aA :: .int .i64 0 :: .int .i64 0 :: a9.aA :: x9 :: .int .i64 (BI l) :: a9.aA :: x12 :: a9.aA :: a9.aA :: a9.aA :: a9.aA :: a9.aA :: a9.aA :: a9.aA :: x20 :: a9.aA :: a9.aA :: a9.aA :: a9.aA :: a9.aA :: a9.aA :: a9.aA :: v :: .int .i64 (l.length : Nat) :: .int .i64 (l.length : Nat) :: x31 :: a9.aA :: a9.aA :: a9.aA :: a9.aA :: a9.aA :: a9.aA :: a9.aA :: a9.aA :: []) h n) :
    ∀ (m i : Nat) (h : Hp) (n : Nat) (x0 x1 x2 x9 x12 x20 x31 : a9), i + m = l.length → Old h0 h b → b ≤ n → aY h n →
      Run env 60 none Q (.loop GA) ks (x0 :: x1 :: x2 :: a9.aA :: a9.aA :: a9.aA :: .int .i64 0 :: .int .i64 0 :: a9.aA :: x9 :: .int .i64 (BI (l.take i)) :: a9.aA :: x12 :: a9.aA :: a9.aA :: a9.aA :: a9.aA :: a9.aA :: a9.aA :: a9.aA :: x20 :: a9.aA :: a9.aA :: a9.aA :: a9.aA :: a9.aA :: a9.aA :: a9.aA :: v :: .int .i64 (l.length : Nat) :: .int .i64 (i : Nat) :: x31 :: a9.aA :: a9.aA :: a9.aA :: a9.aA :: a9.aA :: a9.aA :: a9.aA :: a9.aA :: []) h n := by
  intro m
  induction m with
  | zero =>
    intro i h n x0 x1 x2 x9 x12 x20 x31 hm ho hn hf
    have : i = l.length := by omega
    subst this
    rw [List.take_length]
    rw [bO]
    have hcc : ¬ (((l.length : Nat) : Int) < ((l.length : Nat) : Int)) := by omega
    simp only [GA, bC, Try.f60, Option.getD_some, fgr, bor, List.getD_cons_zero, hcc, gE]
    exact hT h n _ _ _ _ _ _ _ ho hn hf
  | succ m ih =>
    intro i h n x0 x1 x2 x9 x12 x20 x31 hm ho hn hf
    have hv' := hv.old (Nat.le_refl _) ho
    have hil : i < l.length := by omega
    have hcc : (((i : Nat) : Int) < ((l.length : Nat) : Int)) := by omega
    have w1 : IntKind.i64.wrap (((i : Nat) : Int) + 1) = ((i + 1 : Nat) : Int) := by rw [w64 (by omega) (by omega)]; omega
    obtain ⟨sw, va⟩ := hv'.at_ hil
    have hs := WX hil
    generalize l[i] = w at *
    rw [bO]
    simp only [GA, bC, Try.f60, Option.getD_some, fgr, bor, List.getD_cons_zero, hcc, gE]
    rw [aE (hv'.idx hil)]
    simp only [gE]
    rw [aE (va.all n)]
    simp only [gE]
    rw [bU cY rfl]
    simp only [cel, gE]
    have kd := va.s.kind
    refine cK (v := .agg (aK w sw)) cY rfl (aZ va.ok.h va.ok.b) (c8 kd.2.1) hf fun H1 r1 p1 f1 => ?_
    replace r1 : Row H1 n (aK w sw) := r1
    simp only [tyr, fgr, aR, gE]
    rw [aE (jY r1 va.ok)]
    have hs' : IntKind.i64.wrap (BI (l.take i) + w.value) = BI (l.take (i + 1)) := hs.symm
    simp only [fgr, bor, bZ, w1, hs', gE]
    exact ih (i + 1) H1 (n + 1) _ _ _ _ _ _ _ (by omega) (fun j hj => by rw [p1 j (by omega), ho j hj]) (by omega) f1
theorem f60 {W : Nat → Prop} {h : Hp} {n s : Nat} {L : List Ver} {I : List Inf} (q : St W h n s L I) (sv : a9) (aJ : List UInt8) (z : Int) (hb : Bytes h sv aJ) (hsn : ∀ j, aP sv = some j → j < n) (hI : I.length ≤ 900000) (hL : L.length ≤ 900000) (hf : aY h n) :
    Wp (bH env (aV env) 60 [.ptr s 0, sv, .int .i64 z]) h n fun v' h' n' => v' = .tup [.int .i64 (zW L I aJ z), .int .i64 (nQ (hO I z))] ∧ Old h h' n := by
  refine aU aM9 aB1 ?_
  simp only [Z2, Try.f60, Option.getD_some, List.replicate, fgr, hkr, Nat.reduceAdd, Nat.reduceSub, gE]
  refine aQ hf (f25 q z (by omega) hf) fun v3 h3 n3 hn3 f3 ⟨e3, ob3, o3⟩ => ?_
  subst e3
  simp only [gE]
  rw [bU fQ rfl]
  simp only [cel, gE]
  refine cK (v := .agg (bK ((hO I z).getD fW))) fQ rfl (bQ ob3) (dR _) f3 fun H4 r4 o4 f4 => ?_
  have O4 : Old h H4 n := fun j hj => by rw [o4 j (by omega), o3 j hj]
  have q4 := q.old (n' := n3 + 1) (by omega) O4
  cases hi : hO I z with
  | none =>
    have hc : zW L I aJ z = 0 := by unfold zW; rw [hi]
    rw [hc]
    simp only [fgr, bor, Int.reduceEq, nQ, gE]
    exact O4
  | some i =>
    have hc : zW L I aJ z = BI (ofV L aJ z) := by unfold zW; rw [hi]
    rw [hc]
    obtain ⟨x, lv, rs, ix, il, sa, sb, sc⟩ := q4
    simp only [tyr, fgr, bor, aR, nQ, gE]
    rw [aE (rs.one (off := 0) rfl pD rfl)]
    simp only [hkr, gE]
    have hb4 : Bytes H4 sv aJ := hb.aM fun j w => O4 j (hsn j w)
    refine aQ f4 (aQ4 sv aJ z ix.k hb4 (fun j w => by have := hsn j w; omega) hL f4) fun v5 h5 n5 hn5 f5 ⟨l5, o5⟩ => ?_
    simp only [fgr, builtin, l5.len, gE]
    have hlen : (ofV L aJ z).length ≤ 900000 := Nat.le_trans (List.length_filter_le _ _) hL
    refine XO _ _ v5 (n3 + 1) n5 (ofV L aJ z) h5 hlen l5 ?_ (ofV L aJ z).length 0 h5 n5 _ _ _ _ _ _ _ (by omega) (Old.refl _ _) (Nat.le_refl _) f5
    intro h6 n6 x0 x1 x2 x9 x12 x20 x31 o6 hn6 f6
    simp only [fgr, gE]
    exact fun j hj => by rw [o6 j (by omega), o5 j (by omega), O4 j hj]
def trV (z : Int) (l : List Ver) : List Ver := (l.filter fun v => decide (v.made ≤ z)).map (asV z)
theorem ag3 {l : List Ver} {i : Nat} (h : i < l.length) (z : Int) : trV z (l.take (i + 1)) = if l[i].made ≤ z then trV z (l.take i) ++ [asV z l[i]] else trV z (l.take i) := by
  unfold trV
  rw [hU h, List.filter_append, List.map_append]
  by_cases c : l[i].made ≤ z
  · rw [if_pos c]; simp [c]
  · rw [if_neg c]; simp [c]
theorem uW (z : Int) (l : List Ver) : (trV z l).length ≤ l.length := by
  unfold trV
  rw [List.length_map]
  exact List.length_filter_le _ _
def jU (L : List Ver) (I : List Inf) (aI : List UInt8) (pn z : Int) : List Ver := match hO I z with
  | some _ => trV z (oL L aI pn)
  | none => []
end Go.Am.Ytlgebaofkolkoaa
