/- What the statement reaches, gone through; and the abstract machine that goes through it. -/
import Derived.Test.YtlgebaofkolkoaaGD
set_option linter.unusedSimpArgs false
set_option linter.unusedVariables false
set_option linter.defProp false
set_option maxRecDepth 10000
namespace Go.Am.Ytlgebaofkolkoaa
open Go Go.Am Go.Proofs
theorem KI {L : List Ver} {aG : List UInt8} {pn : Int} {k : Nat} (r : dW false L) (g : ∀ v ∈ L, wT v) (hk : pos false L (key aG pn 0) ≤ k)
  (sm : ∀ i (hi : i < L.length), pos false L (key aG pn 0) ≤ i → i < k → same aG pn L[i] = true) (ne : ∀ hk : k < L.length, same aG pn L[k] = false) (th : Ver → Bool) :
  ((L.take k).drop (pos false L (key aG pn 0))).filter th = L.filter fun v => same aG pn v && th v := by
 have P := qY r (key aG pn 0)
 have nn : ∀ i (hi : i < L.length), pos false L (key aG pn 0) ≤ i → same aG pn L[i] = false → 0 < MT L[i] (key aG pn 0) := fun i hi h1 h2 =>
  HP (P.hi i hi h1) fun q => by have w : same aG pn L[i] = true := lZ.2 q; rw [w] at h2; cases h2
 refine vD hk _ _ (fun i hi h => ?_) sm (fun i hi h => ?_)
 ·cases hs : same aG pn L[i] with
  | false => rfl
  | true =>
   have h0 := P.lo i hi h
   have h1 : lK L[i].aG L[i].pn aG pn = 0 := lZ.1 hs
   have h2 : cV L[i] (key aG pn 0) = jR L[i].made 0 := by
    show orI (lK L[i].aG L[i].pn aG pn) _ = _
    rw [h1]; rfl
   have h3 := (g _ (List.getElem_mem hi)).made
   have h4 : cV L[i] (key aG pn 0) < 0 := h0
   rw [h2, tW] at h4
   omega
 ·have hkl : k < L.length := by omega
  have h1 := nn k hkl hk (ne hkl)
  have h2 : 0 < MT L[i] (key aG pn 0) := by
   by_cases q : i = k
   ·subst q; exact h1
   ·exact TR TS h1 (yL (r.at_ hkl hi (by omega)))
  cases hs : same aG pn L[i] with
  | false => rfl
  | true =>
   have : MT L[i] (key aG pn 0) = 0 := lZ.1 hs
   omega
theorem WQ {L : List Ver} {aG : List UInt8} {pn z : Int} {k : Nat} (r : dW false L) (g : ∀ v ∈ L, wT v) (hk : pos false L (key aG pn 0) ≤ k)
  (sm : ∀ i (hi : i < L.length), pos false L (key aG pn 0) ≤ i → i < k → same aG pn L[i] = true) (ne : ∀ hk : k < L.length, same aG pn L[k] = false) :
  fnd L (pos false L (key aG pn 0)) k z = atV L aG pn z := by
 unfold fnd atV
 rw [KI r g hk sm ne]
theorem BG : ∀ (l : List UInt8), ¬ Lib.compareBytes l (List.replicate l.length 0) < 0
 | [] => by decide
 | a :: l => by
  rw [List.length_cons, List.replicate_succ]
  unfold Lib.compareBytes
  have h1 : ¬ a < 0 := by simp [UInt8.lt_iff_toNat_lt]
  rw [if_neg h1]
  split
  ·omega
  ·exact BG l
theorem TV {v : Ver} {aE : List UInt8} (o : v.Ok) (g : wT v) (hs : v.aE = aE) : ¬ DB v (iL aE) < 0 := by
 have e1 : DB v (iL aE) = cV v (iL aE) := by
  show orI (Lib.compareBytes v.aE aE) _ = _
  rw [hs, pE]; rfl
 rw [e1]
 have e2 : cV v (iL aE) = orI (orI (Lib.compareBytes v.aG (List.replicate 32 0)) (jR v.pn 0)) (jR v.made 0) := rfl
 rw [e2]
 have z := BG v.aG
 rw [o.h] at z
 have m := g.made
 have p := g.2
 have n1 : ¬ jR v.pn 0 < 0 := by rw [tW]; omega
 have n2 : ¬ jR v.made 0 < 0 := by rw [tW]; omega
 unfold orI
 split
 ·split
  ·exact n2
  ·exact n1
 ·exact z
def ofV (L : List Ver) (aE : List UInt8) (z : Int) : List Ver := L.filter fun v => (v.aE == aE) && dC v z
theorem of_eq {L S : List Ver} {aE : List UInt8} {z : Int} {k : Nat} (rL : dW false L) (rS : dW true S) (perm : L.Perm S) (ok : ∀ v ∈ L, v.Ok) (g : ∀ v ∈ L, wT v) (hk : pos true S (iL aE) ≤ k)
  (sm : ∀ i (hi : i < S.length), pos true S (iL aE) ≤ i → i < k → S[i].aE = aE) (ne : ∀ hk : k < S.length, S[k].aE ≠ aE) :
  pT S (pos true S (iL aE)) k z = ofV L aE z := by
 have P := qY rS (iL aE)
 have ordB : oP (fun a b : Ver => Lib.compareBytes a.aE b.aE) := iO.on Ver.aE
 have e1 : pT S (pos true S (iL aE)) k z = S.filter fun v => (v.aE == aE) && dC v z := by
  refine vD hk (fun v => v.aE == aE) _ (fun i hi h => ?_) (fun i hi h1 h2 => beq_iff_eq.2 (sm i hi h1 h2)) (fun i hi h => ?_)
  ·cases hs : (S[i].aE == aE) with
   | false => rfl
   | true =>
    have hm := perm.mem_iff.2 (List.getElem_mem hi)
    exact absurd (P.lo i hi h) (TV (ok _ hm) (g _ hm) (beq_iff_eq.1 hs))
  ·have hkl : k < S.length := by omega
   have h1 : 0 < Lib.compareBytes S[k].aE (iL aE).aE := HP (P.hi k hkl hk) fun q => ne hkl (vR _ _ q)
   have h2 : 0 < Lib.compareBytes S[i].aE (iL aE).aE := by
    by_cases q : i = k
    ·subst q; exact h1
    ·exact TR (o := fun a b : Ver => Lib.compareBytes a.aE b.aE) (t := iL aE) ordB h1 (yL (rS.at_ hkl hi (by omega)))
   rw [beq_eq_false_iff_ne]
   intro hs
   rw [hs] at h2
   have : Lib.compareBytes aE (iL aE).aE = 0 := pE aE
   omega
 rw [e1]
 refine uG (o := false) ?_ (rL.sublist List.filter_sublist) (perm.symm.filter _)
 refine (List.Pairwise.filter _ rS).imp_of_mem fun {a b} ha hb hab => ?_
 have s1 := (List.mem_filter.1 ha).2
 have s2 := (List.mem_filter.1 hb).2
 simp only [Bool.and_eq_true, beq_iff_eq] at s1 s2
 have : orI (Lib.compareBytes a.aE b.aE) (cV a b) < 0 := hab
 rw [s1.1, s2.1, pE] at this
 exact this
structure Ixk (K : Nat → Prop) (h : Hp) (n x : Nat) (L : List Ver) : Prop where
 ix : ∃ D M, Ix h n D M x L ∧ ∀ j, K j → j < n ∧ ¬ M j ∧ ¬ D j
 g : ∀ v ∈ L, wT v
theorem Ixk.rL {K : Nat → Prop} {h : Hp} {n x : Nat} {L : List Ver} (s : Ixk K h n x L) : dW false L := by
 obtain ⟨⟨D, M, i, _⟩, _⟩ := s
 exact i.r
theorem Ixk.ok {K : Nat → Prop} {h : Hp} {n x : Nat} {L : List Ver} (s : Ixk K h n x L) : ∀ v ∈ L, v.Ok ∧ v.aE.length ≤ 1000000 := by
 obtain ⟨⟨D, M, i, _⟩, _⟩ := s
 exact i.ok
theorem Ixk.k {K : Nat → Prop} {h : Hp} {n x : Nat} {L : List Ver} (s : Ixk K h n x L) {j : Nat} (hj : K j) : j < n := by
 obtain ⟨⟨D, M, i, q⟩, _⟩ := s
 exact (q j hj).1
theorem Ixk.sub {K K' : Nat → Prop} {h : Hp} {n x : Nat} {L : List Ver} (s : Ixk K h n x L) (hk : ∀ j, K' j → K j) : Ixk K' h n x L := by
 obtain ⟨⟨D, M, i, q⟩, g⟩ := s
 exact ⟨⟨D, M, i, fun j hj => q j (hk j hj)⟩, g⟩
theorem Ixk.oE {K : Nat → Prop} {h h' : Hp} {n n' x : Nat} {L : List Ver} (s : Ixk K h n x L) (hn : n ≤ n') (ho : Old h h' n) : Ixk (fun j => K j ∨ (n ≤ j ∧ j < n')) h' n' x L := by
 obtain ⟨⟨D, M, i, q⟩, g⟩ := s
 refine ⟨⟨D, M, i.old hn ho, fun j hj => ?_⟩, g⟩
 rcases hj with hj | hj
 ·exact ⟨by have := (q j hj).1; omega, (q j hj).2⟩
 ·obtain ⟨⟨S, ⟨vl, vs, xl, xs, iv, mx, ml, ms, mn⟩, _⟩, _⟩ := i
  exact ⟨hj.2, fun w => by have := (mn j w).1; omega, fun w => by have := iv.dn j w; omega⟩
theorem Ixk.old {K : Nat → Prop} {h h' : Hp} {n n' x : Nat} {L : List Ver} (s : Ixk K h n x L) (hn : n ≤ n') (ho : Old h h' n) : Ixk K h' n' x L := (s.oE hn ho).sub fun j q => .inl q
theorem Ixk.zY {K : Nat → Prop} {h h' : Hp} {n x : Nat} {L : List Ver} (s : Ixk K h n x L) (hk : ∀ j, ¬ K j → h' j = h j) : Ixk K h' n x L := by
 obtain ⟨⟨D, M, i, q⟩, g⟩ := s
 exact ⟨⟨D, M, i.qL (Nat.le_refl _) fun j hj w => hk j fun c => by
  have := q j c
  rcases w with w | w
  ·exact this.2.2 w
  ·exact this.2.1 w, q⟩, g⟩
theorem Ix.xlt {h : Hp} {n x : Nat} {D M : Nat → Prop} {L : List Ver} (i : Ix h n D M x L) : x < n := by
 obtain ⟨⟨S, ⟨vl, vs, xl, xs, iv, _⟩, _⟩, _⟩ := i
 exact iv.xn
theorem Chg.k {K : Nat → Prop} {h h' : Hp} {n n' : Nat} {D M D' M' : Nat → Prop} (c : Chg h n D M h' n' D' M') (q : ∀ j, K j → j < n ∧ ¬ M j ∧ ¬ D j) : (∀ j, K j → h' j = h j) ∧ ∀ j, K j → j < n' ∧ ¬ M' j ∧ ¬ D' j := by
 refine ⟨fun j hj => c.old j (q j hj).1 (q j hj).2.1, fun j hj => ⟨by have := (q j hj).1; have := c.nx; omega, fun w => ?_, fun w => ?_⟩⟩
 ·have := q j hj
  rcases c.m' j w with w | w
  ·exact this.2.1 w
  ·omega
 ·have := q j hj
  rcases c.d' j w with w | w
  ·exact this.2.2 w
  ·omega
theorem ak6 (h : Hp) (n : Nat) (hf : bI h n) : Wp (bO env (aX env) 40 []) h n fun v' h' n' => ∃ x, v' = .ptr x 0 ∧ n ≤ x ∧ Ixk (fun j => j < n) h' n' x [] ∧ Old h h' n := by
 refine cG (f40 h n hf) fun v' h' n' ⟨x, e, hx, i, o⟩ => ⟨x, e, hx, ⟨⟨_, _, i, fun j hj => ⟨by have := i.xlt; omega, fun q => by omega, fun q => q⟩⟩, fun v hv => (by cases hv)⟩, o⟩
theorem AB {L : List Ver} {v w : Ver} : w ∈ lJ L v ↔ w = v ∨ w ∈ L := AR
theorem AD (L : List Ver) (v : Ver) : (lJ L v).length = L.length + 1 := (sI _ _ _).length_eq.trans rfl
theorem al6 {K : Nat → Prop} {x : Nat} (v : Ver) (sv : aA) (ov : v.Ok) (hpn : 0 ≤ v.pn) (hsl : v.aE.length ≤ 1000000) {L : List Ver} {h : Hp} {n : Nat} (hs : Ixk K h n x L) (hb : Bytes h sv v.aE) (hsn : ∀ j, aL sv = some j → j < n) (hc : L.length ≤ 900000) (hf : bI h n) :
  Wp (bO env (aX env) 33 [.ptr x 0, .agg (aH v sv)]) h n fun v' h' n' => (∀ j, K j → h' j = h j) ∧ ((oI v L ∧ v' = .int .i64 210 ∧ Ixk K h' n' x L) ∨ (¬ oI v L ∧ v' = .int .i64 0 ∧ Ixk K h' n' x (lJ L v))) := by
 obtain ⟨⟨D, M, i, q⟩, g⟩ := hs
 refine cG (f33 x v sv ov hsl L D M h n i hb hsn hc hf) fun v' h' n' hh => ?_
 rcases hh with ⟨a, b, i', c⟩ | ⟨a, b, D', M', i', c⟩
 ·exact ⟨(c.k q).1, .inl ⟨a, b, ⟨⟨_, _, i', (c.k q).2⟩, g⟩⟩⟩
 ·refine ⟨(c.k q).1, .inr ⟨a, b, ⟨⟨_, _, i', (c.k q).2⟩, fun w hw => ?_⟩⟩⟩
  rcases AB.1 hw with rfl | hw
  ·refine ⟨?_, hpn⟩
   cases e : qG w with
   | false => rfl
   | true => exact absurd (.inl e) a
  ·exact g w hw
theorem xT {L : List Ver} {v w : Ver} (h : w ∈ iZ L v) : w ∈ L := zF h
theorem al4 {K : Nat → Prop} {x : Nat} (aG : List UInt8) (pn made : Int) (hl : aG.length = 32) {L : List Ver} {h : Hp} {n : Nat} (hs : Ixk K h n x L) (hc : L.length ≤ 900000) (hf : bI h n) :
  Wp (bO env (aX env) 34 [.ptr x 0, .agg (aQ aG pn), .int .i64 made]) h n fun v' h' n' => (∀ j, K j → h' j = h j) ∧ (((∀ w ∈ L, cV w (key aG pn made) ≠ 0) ∧ v' = .int .i64 210 ∧ Ixk K h' n' x L) ∨ ∃ w, w ∈ L ∧ cV w (key aG pn made) = 0 ∧ v' = .int .i64 0 ∧ Ixk K h' n' x (iZ L w)) := by
 obtain ⟨⟨D, M, i, q⟩, g⟩ := hs
 refine cG (f34 x aG pn made hl L D M h n i (by omega) hf) fun v' h' n' ⟨hh, c⟩ => ?_
 rcases hh with ⟨a, b, i'⟩ | ⟨w, a, b, e, i'⟩
 ·exact ⟨(c.k q).1, .inl ⟨a, b, ⟨⟨_, _, i', (c.k q).2⟩, g⟩⟩⟩
 ·exact ⟨(c.k q).1, .inr ⟨w, a, b, e, ⟨⟨_, _, i', (c.k q).2⟩, fun u hu => g u (xT hu)⟩⟩⟩
theorem xU {w : Ver} {aG : List UInt8} {pn made : Int} (h : cV w (key aG pn made) = 0) : w.aG = aG ∧ w.pn = pn ∧ w.made = made := by
 have e : cV w (key aG pn made) = orI (lK w.aG w.pn aG pn) (jR w.made made) := rfl
 rw [e] at h
 unfold orI at h
 split at h
 ·rename_i q
  have s := lZ.2 q
  unfold same at s
  simp only [Bool.and_eq_true, decide_eq_true_eq, beq_iff_eq] at s
  exact ⟨s.1, s.2, mZ.1 h⟩
 ·contradiction
def pY (L : List Ver) (w v : Ver) : List Ver := L.set (pos false L w) v
theorem tV {L : List Ver} {w : Ver} (r : dW false L) (hw : w ∈ L) (s : Int) (b : List UInt8) : lJ (iZ L w) (iY w s b) = pY L w (iY w s b) := HF r hw (nR.refl w)
theorem qT {L : List Ver} {w v u : Ver} (h : u ∈ pY L w v) : u = v ∨ u ∈ L := (List.mem_or_eq_of_mem_set h).symm
theorem qU (L : List Ver) (w v : Ver) : (pY L w v).length = L.length := List.length_set
theorem pB {w : Ver} (g : wT w) {s : Int} {b : List UInt8} (h : s = 0 ∨ (1 ≤ s ∧ w.made ≤ s)) : wT (iY w s b) := by
 have m := g.made
 refine ⟨?_, g.2⟩
 unfold qG iY
 simp only [Bool.or_eq_false_iff, decide_eq_false_iff_not, Bool.and_eq_false_iff]
 omega
theorem al2 {K : Nat → Prop} {x : Nat} (aG : List UInt8) (pn made s : Int) (b : List UInt8) (hl : aG.length = 32) (hbl : b.length = 32) {L : List Ver} {h : Hp} {n : Nat} (hs : Ixk K h n x L) (hc : L.length ≤ 900000) (hf : bI h n) :
  Wp (bO env (aX env) 36 [.ptr x 0, .agg (aQ aG pn), .int .i64 made, .int .i64 s, .agg (b.map u8)]) h n fun v' h' n' => (∀ j, K j → h' j = h j) ∧
   (((∀ w ∈ L, cV w (key aG pn made) = 0 → (w.bW ≠ 0 ∨ s < 1 ∨ s < made)) ∧ v' = .int .i64 210 ∧ Ixk K h' n' x L) ∨
   (∃ w ∈ L, cV w (key aG pn made) = 0 ∧ w.bW = 0 ∧ 1 ≤ s ∧ made ≤ s ∧ v' = .int .i64 0 ∧ Ixk K h' n' x (pY L w (iY w s b)))) := by
 have rL := hs.rL
 obtain ⟨⟨D, M, i, q⟩, g⟩ := hs
 refine cG (f36 x aG pn made s b hl hbl L D M h n i hc hf) fun v' h' n' hh => ?_
 rcases hh with ⟨a, e, i', c⟩ | ⟨w, hw, a1, a2, a3, a4, e, D', M', i', c⟩
 ·exact ⟨(c.k q).1, .inl ⟨a, e, ⟨⟨_, _, i', (c.k q).2⟩, g⟩⟩⟩
 ·rw [tV rL hw] at i'
  refine ⟨(c.k q).1, .inr ⟨w, hw, a1, a2, a3, a4, e, ⟨⟨_, _, i', (c.k q).2⟩, fun u hu => ?_⟩⟩⟩
  rcases qT hu with rfl | hu
  ·exact pB (g w hw) (.inr ⟨a3, by rw [(xU a1).2.2]; exact a4⟩)
  ·exact g u hu
theorem ak9 {K : Nat → Prop} {x : Nat} (aG : List UInt8) (pn made : Int) (hl : aG.length = 32) {L : List Ver} {h : Hp} {n : Nat} (hs : Ixk K h n x L) (hc : L.length ≤ 900000) (hf : bI h n) :
  Wp (bO env (aX env) 38 [.ptr x 0, .agg (aQ aG pn), .int .i64 made]) h n fun v' h' n' => (∀ j, K j → h' j = h j) ∧
   (((∀ w ∈ L, cV w (key aG pn made) = 0 → w.bW = 0) ∧ v' = .int .i64 210 ∧ Ixk K h' n' x L) ∨
   (∃ w ∈ L, cV w (key aG pn made) = 0 ∧ w.bW ≠ 0 ∧ v' = .int .i64 0 ∧ Ixk K h' n' x (pY L w (iY w 0 z32)))) := by
 have rL := hs.rL
 obtain ⟨⟨D, M, i, q⟩, g⟩ := hs
 refine cG (f38 x aG pn made hl L D M h n i hc hf) fun v' h' n' hh => ?_
 rcases hh with ⟨a, e, i', c⟩ | ⟨w, hw, a1, a2, e, D', M', i', c⟩
 ·exact ⟨(c.k q).1, .inl ⟨a, e, ⟨⟨_, _, i', (c.k q).2⟩, g⟩⟩⟩
 ·rw [tV rL hw] at i'
  refine ⟨(c.k q).1, .inr ⟨w, hw, a1, a2, e, ⟨⟨_, _, i', (c.k q).2⟩, fun u hu => ?_⟩⟩⟩
  rcases qT hu with rfl | hu
  ·exact pB (g w hw) (.inl rfl)
  ·exact g u hu
theorem MN {K : Nat → Prop} {x : Nat} {L : List Ver} {h : Hp} {n : Nat} (hs : Ixk K h n x L) (hc : L.length ≤ 900000) (hf : bI h n) :
  Wp (bO env (aX env) 32 [.ptr x 0]) h n fun v' h' n' => VL h' n n' v' L ∧ Old h h' n := by
 obtain ⟨⟨D, M, i, q⟩, g⟩ := hs
 exact f32 x L D M h n i (by omega) hf
theorem ak7 {K : Nat → Prop} {x : Nat} (z : Int) {L : List Ver} {h : Hp} {n : Nat} (hs : Ixk K h n x L) (hc : L.length ≤ 900000) (hf : bI h n) :
  Wp (bO env (aX env) 39 [.ptr x 0, .int .i64 z]) h n fun v' h' n' => VL h' n n' v' (L.filter fun v => dC v z) ∧ Old h h' n := by
 obtain ⟨⟨D, M, i, q⟩, g⟩ := hs
 exact f39 x z L D M h n i (by omega) hf
theorem RW {K : Nat → Prop} {x : Nat} {L : List Ver} {h : Hp} {n : Nat} (hs : Ixk K h n x L) : Wp (bO env (aX env) 50 [.ptr x 0]) h n fun v' h' n' => v' = .int .i64 (L.length : Nat) ∧ h' = h ∧ n' = n := by
 obtain ⟨⟨D, M, i, q⟩, g⟩ := hs
 exact f50 x L D M h n i
def noV : Ver := ⟨List.replicate 32 0, 0, 0, 0, [], false, 0, List.replicate 32 0⟩
theorem HX : noV.Ok := ⟨rfl, rfl⟩
theorem WU : fA.i.zero.cells = aH noV .aT := rfl
theorem al0 {K : Nat → Prop} {x : Nat} (aG : List UInt8) (pn z : Int) (hl : aG.length = 32) {L : List Ver} {h : Hp} {n : Nat} (hs : Ixk K h n x L) (hc : L.length ≤ 900000) (hf : bI h n) :
  Wp (bO env (aX env) 37 [.ptr x 0, .agg (aQ aG pn), .int .i64 z]) h n fun v' h' n' => Old h h' n ∧ ∃ s', v' = .tup [.agg (aH ((atV L aG pn z).getD noV) s'), .bool (atV L aG pn z).isSome] ∧ ((atV L aG pn z).getD noV).Ok ∧ Bytes h' s' ((atV L aG pn z).getD noV).aE ∧ (∀ j, aL s' = some j → n ≤ j ∧ j < n') ∧ nW s' = true := by
 have rL := hs.rL
 obtain ⟨⟨D, M, i, q⟩, g⟩ := hs
 have ok := i.ok
 refine cG (f37 x aG pn z hl L D M h n i (by omega) hf) fun v' h' n' ⟨o, k, hk, sm, ne, hh⟩ => ⟨o, ?_⟩
 rw [WQ rL g hk sm ne] at hh
 rcases hh with ⟨e, hv⟩ | ⟨w, s', e, hv, hw, b, hj⟩
 ·exact ⟨.aT, by rw [hv, e, WU]; rfl, by rw [e]; exact HX, by rw [e]; exact .aT, (fun j q => by cases q), rfl⟩
 ·exact ⟨s', by rw [hv, e]; rfl, by rw [e]; exact (ok w hw).1, by rw [e]; exact b, hj⟩
theorem ak5 {K : Nat → Prop} {x : Nat} (sv : aA) (aE : List UInt8) (z : Int) {L : List Ver} {h : Hp} {n : Nat} (hs : Ixk K h n x L) (hb : Bytes h sv aE) (hsn : ∀ j, aL sv = some j → j < n) (hc : L.length ≤ 900000) (hf : bI h n) :
  Wp (bO env (aX env) 43 [.ptr x 0, sv, .int .i64 z]) h n fun v' h' n' => VL h' n n' v' (ofV L aE z) ∧ Old h h' n := by
 have rL := hs.rL
 obtain ⟨⟨D, M, i, q⟩, g⟩ := hs
 have ok := i.ok
 refine cG (f43 x sv aE z L D M h n i hb hsn (by omega) hf) fun v' h' n' ⟨o, S, k, rS, perm, hk, sm, ne, v⟩ => ⟨?_, o⟩
 rwa [of_eq rL rS perm (fun v hv => (ok v hv).1) g hk sm ne] at v
def b9 : List UInt8 := 9 :: List.replicate 31 0
theorem k5 : Try.prog.cellsOf 5 = 1 := by kernel_rfl
theorem k2 : Try.prog.cellsOf 2 = 1 := by kernel_rfl
theorem k3 : Try.prog.cellsOf 3 = 1 := by kernel_rfl
theorem k4 : Try.prog.cellsOf 4 = 1 := by kernel_rfl
theorem k25 : Try.prog.cellsOf 25 = 32 := by kernel_rfl
theorem k26 : Try.prog.cellsOf 26 = 1 := by kernel_rfl
theorem k28 : Try.prog.cellsOf 28 = 33 := by kernel_rfl
theorem k29 : Try.prog.cellsOf 29 = 1 := by kernel_rfl
theorem k31 : Try.prog.cellsOf 31 = 70 := by kernel_rfl
theorem k91 : Try.prog.cellsOf 91 = 72 := by kernel_rfl
theorem SO (b : UInt8) : j4 (u8 b) = b := by simp [j4, u8]
theorem BN {vs : List aA} (ha : Arg Try.prog 25 vs) : ∃ l : List UInt8, vs = l.map u8 ∧ l.length = 32 := by
 obtain ⟨hl, he⟩ := ha.G6 Try.underlying25
 rw [k25] at hl
 refine ⟨vs.map j4, ?_, by simpa using hl⟩
 rw [List.map_map]
 refine List.ext_getElem (by simp) fun i h1 h2 => ?_
 have q := he i (by omega)
 rw [k5, Nat.mul_one] at q
 obtain ⟨z, e, hw⟩ := q.cY Try.underlying5
 have e' : vs[i] = .int .u8 z := by
  have : ((vs.drop i).take 1)[0]? = some vs[i] := by simp [List.getElem?_drop, h1]
  rw [e] at this
  simpa using this.symm
 rw [List.getElem_map, Function.comp, e']
 have : aA.int .u8 z = u8 (byteOf z) := by rw [u8, xW hw]
 rw [this, SO]
theorem tE (vs : List aA) (a k : Nat) : vs.drop a = (vs.drop a).take k ++ vs.drop (a + k) := by
 rw [← List.drop_drop, List.take_append_drop]
theorem G7 {vs : List aA} (ha : Arg Try.prog 28 vs) : ∃ (aG : List UInt8) (pn : Int), vs = aQ aG pn ∧ aG.length = 32 ∧ 0 ≤ pn := by
 obtain ⟨hl, he⟩ := ha.pV Try.underlying28
 rw [k28] at hl
 have q0 : Arg Try.prog 25 ((vs.drop 0).take (Try.prog.cellsOf 25)) := he 0 _ rfl
 have q1 : Arg Try.prog 26 ((vs.drop 32).take (Try.prog.cellsOf 26)) := he 1 _ rfl
 rw [k25] at q0
 rw [k26] at q1
 obtain ⟨aG, e0, hh⟩ := BN q0
 obtain ⟨pn, e1, hw⟩ := q1.cY Try.underlying26
 refine ⟨aG, pn, ?_, hh, ?_⟩
 ·have c0 := tE vs 0 32
  have c1 := tE vs (0 + 32) 1
  rw [List.drop_zero] at c0
  rw [List.drop_zero] at e0
  rw [e0, c1, e1, List.drop_eq_nil_of_le (show vs.length ≤ 0 + 32 + 1 by omega)] at c0
  rw [c0]; rfl
 ·simp only [Lit.wf, Bool.and_eq_true, decide_eq_true_eq] at hw
  exact hw.1
structure zP (v : Ver) (sv : aA) : Prop where
 ok : v.Ok
 pn : 0 ≤ v.pn
 s : wC sv v.aE
 sl : v.aE.length ≤ maxLen
 m : (Lit.int .i64 v.made).wf = true
theorem EH {v : aA} {l : List UInt8} (hv : wC v l) : aL v = none := by
 cases hi : aL v with
 | none => rfl
 | some j => exact absurd (G5 (hv.below 0) hi) (Nat.not_lt_zero j)
theorem N4 {vs : List aA} (ha : Arg Try.prog 31 vs) : ∃ v sv, vs = aH v sv ∧ zP v sv := by
 obtain ⟨hl, he⟩ := ha.pV Try.underlying31
 rw [k31] at hl
 have q0 : Arg Try.prog 28 ((vs.drop 0).take (Try.prog.cellsOf 28)) := he 0 _ rfl
 have q1 : Arg Try.prog 3 ((vs.drop 33).take (Try.prog.cellsOf 3)) := he 1 _ rfl
 have q2 : Arg Try.prog 2 ((vs.drop 34).take (Try.prog.cellsOf 2)) := he 2 _ rfl
 have q3 : Arg Try.prog 29 ((vs.drop 35).take (Try.prog.cellsOf 29)) := he 3 _ rfl
 have q4 : Arg Try.prog 4 ((vs.drop 36).take (Try.prog.cellsOf 4)) := he 4 _ rfl
 have q5 : Arg Try.prog 3 ((vs.drop 37).take (Try.prog.cellsOf 3)) := he 5 _ rfl
 have q6 : Arg Try.prog 25 ((vs.drop 38).take (Try.prog.cellsOf 25)) := he 6 _ rfl
 rw [k28] at q0
 rw [k3] at q1 q5
 rw [k2] at q2
 rw [k29] at q3
 rw [k4] at q4
 rw [k25] at q6
 obtain ⟨aG, pn, e0, hh, hp⟩ := G7 q0
 obtain ⟨made, e1, w1⟩ := q1.cY Try.underlying3
 obtain ⟨value, e2, w2⟩ := q2.cY Try.underlying2
 have e3 : ∃ sv, (vs.drop 35).take 1 = [sv] := by
  have : ((vs.drop 35).take 1).length = 1 := by simp; omega
  exact List.length_eq_one_iff.1 this
 obtain ⟨sv, e3⟩ := e3
 rw [e3] at q3
 obtain ⟨aE, hb, hbl⟩ := G8 Try.underlying29 Try.underlying5 k5 q3
 obtain ⟨dN, e4⟩ := q4.bool_inv Try.underlying4
 obtain ⟨bW, e5, w5⟩ := q5.cY Try.underlying3
 obtain ⟨by_, e6, hby⟩ := BN q6
 refine ⟨⟨aG, pn, made, value, aE, dN, bW, by_⟩, sv, ?_, ⟨⟨hh, hby⟩, hp, hb, hbl, w1⟩⟩
 have c0 := tE vs 0 33
 rw [List.drop_zero] at c0
 rw [List.drop_zero] at e0
 rw [e0, tE vs (0 + 33) 1, e1, tE vs (0 + 33 + 1) 1, e2, tE vs (0 + 33 + 1 + 1) 1, e3, tE vs (0 + 33 + 1 + 1 + 1) 1, e4, tE vs (0 + 33 + 1 + 1 + 1 + 1) 1, e5, tE vs (0 + 33 + 1 + 1 + 1 + 1 + 1) 32, e6, List.drop_eq_nil_of_le (show vs.length ≤ 0 + 33 + 1 + 1 + 1 + 1 + 1 + 32 by omega)] at c0
 rw [c0]
 simp [aH, nK]
structure OpI where
 kind : Int
 v : Ver
 at_ : Int
def gD (o : OpI) (sv : aA) : List aA := .int .i64 o.kind :: (aH o.v sv ++ [.int .i64 o.at_])
theorem C7 {o : OpI} {sv : aA} (h : o.v.Ok) : (gD o sv).length = 72 := by
 simp [gD, aW h.h h.b]
structure zQ (a : aA) (os : List OpI) (xs : List aA) : Prop where
 rd : ∀ h, Rds h 72 a os.length xs
 id : aL a = none
 len : os.length ≤ maxLen
 at_ : ∀ j (hj : j < os.length), ∃ sv, (xs.drop (j * 72)).take 72 = gD os[j] sv ∧ zP os[j].v sv
theorem EB (f : Nat → aA) (o n : Nat) : (cut f o n).length = n := by simp [cut]
theorem zG (f : Nat → aA) (o n : Nat) {j : Nat} (h : j < (cut f o n).length) : (cut f o n)[j] = f (o + j) := by simp [cut]
theorem MR (f : Nat → aA) (o n a b : Nat) (h : a + b ≤ n) : ((cut f o n).drop a).take b = cut f (o + a) b := by
 refine List.ext_getElem (by simp [cut]; omega) fun i h1 h2 => ?_
 rw [List.getElem_take, List.getElem_drop, zG, zG, Nat.add_assoc]
theorem N5 {a : aA} (ha : Arg Try.prog 65 [a]) : ∃ os xs, zQ a os xs := by
 rcases ha.wV Try.underlying65 (by rw [k91]; omega) with h | ⟨f, len, h, hl, hx⟩
 ·injection h with h; subst h
  exact ⟨[], [], fun h => .aT, rfl, Nat.zero_le _, fun j hj => by simp at hj⟩
 ·injection h with h
  subst h
  rw [k91] at hx ⊢
  have each : ∀ i, ∃ p : OpI × aA, i < len → cut f (i * 72) 72 = gD p.1 p.2 ∧ zP p.1.v p.2 := fun i => by
   by_cases hi : i < len
   ·obtain ⟨hl, he⟩ := (hx i hi).pV Try.underlying91
    have q0 : Arg Try.prog 3 (((cut f (i * 72) 72).drop 0).take (Try.prog.cellsOf 3)) := he 0 _ rfl
    have q1 : Arg Try.prog 31 (((cut f (i * 72) 72).drop 1).take (Try.prog.cellsOf 31)) := he 1 _ rfl
    have q2 : Arg Try.prog 3 (((cut f (i * 72) 72).drop 71).take (Try.prog.cellsOf 3)) := he 2 _ rfl
    rw [k3] at q0 q2
    rw [k31] at q1
    obtain ⟨kind, e0, _⟩ := q0.cY Try.underlying3
    obtain ⟨v, sv, e1, hv⟩ := N4 q1
    obtain ⟨at_, e2, _⟩ := q2.cY Try.underlying3
    refine ⟨(⟨kind, v, at_⟩, sv), fun _ => ⟨?_, hv⟩⟩
    have c0 := tE (cut f (i * 72) 72) 0 1
    rw [List.drop_zero] at c0
    rw [List.drop_zero] at e0
    rw [e0, tE _ (0 + 1) 70, e1, tE _ (0 + 1 + 70) 1, e2, List.drop_eq_nil_of_le (by rw [EB]; omega)] at c0
    rw [c0]
    simp [gD]
   ·exact ⟨(⟨0, noV, 0⟩, .aT), fun q => absurd q hi⟩
  obtain ⟨b, hb⟩ := Classical.axiomOfChoice each
  refine ⟨(List.range len).map fun i => (b i).1, cut f 0 (len * 72), fun h => ?_, rfl, by simpa using hl, fun j hj => ?_⟩
  ·have := Rds.isl (h := h) (sz := 72) f 0 len (cut f 0 (len * 72)) (by rw [EB]) (fun j hj => by rw [zG])
   simpa using this
  ·simp only [List.length_map, List.length_range] at hj
   simp only [List.getElem_map, List.getElem_range]
   rw [MR _ _ _ _ _ (by omega), Nat.zero_add]
   exact ⟨(b j).2, hb j hj⟩
theorem u65 : und env 65 = M.pure (.slice 91) := rfl
theorem z91 : sizeOf env 91 = M.pure 72 := rfl
theorem AE {xs ys : List aA} {a b i : Nat} (h : (xs.drop a).take b = ys) (hi : i < b) : xs[a + i]? = ys[i]? := by
 rw [← h, List.getElem?_take, if_pos hi, List.getElem?_drop]
theorem HW {o : OpI} {sv : aA} {i : Nat} (h : o.v.Ok) (hi : i < 70) : (gD o sv)[i + 1]? = (aH o.v sv)[i]? := by
 unfold gD
 rw [List.getElem?_cons_succ, List.getElem?_append_left (by rw [aW h.h h.b]; omega)]
def AG (o : OpI) : Bool := decide (200 < o.v.aE.length)
def qE (os : List OpI) : Bool := os.any AG || decide (80 < os.length)
theorem PU (Q : dM) (ks : List Kf) (a : aA) (os : List OpI) (xs : List aA) (h : Hp) (n : Nat) (ha : zQ a os xs)
  (hq : ∀ (x3 x7 x16 : aA), os.any AG = false → dR env 30 none Q ks (.exit 0) (a :: aA.aB :: .bool false :: x3 :: aA.aB :: .int .i64 (os.length : Nat) :: .int .i64 (os.length : Nat) :: x7 :: aA.aB :: aA.aB :: aA.aB :: aA.aB :: aA.aB :: aA.aB :: aA.aB :: aA.aB :: x16 :: aA.aB :: aA.aB :: aA.aB :: aA.aB :: []) h n)
  (hr : ∀ (x3 x7 x16 : aA) (z : aA), os.any AG = true → dR env 30 none Q ks .ret (a :: aA.aB :: .bool true :: x3 :: aA.aB :: .int .i64 (os.length : Nat) :: z :: x7 :: aA.aB :: aA.aB :: aA.aB :: aA.aB :: aA.aB :: aA.aB :: aA.aB :: aA.aB :: x16 :: aA.aB :: aA.aB :: aA.aB :: aA.aB :: []) h n) :
  ∀ (m i : Nat) (x3 x7 x16 : aA), i + m = os.length → (os.take i).any AG = false →
  Run env 30 none Q (.loop CR) ks (a :: aA.aB :: .bool false :: x3 :: aA.aB :: .int .i64 (os.length : Nat) :: .int .i64 (i : Nat) :: x7 :: aA.aB :: aA.aB :: aA.aB :: aA.aB :: aA.aB :: aA.aB :: aA.aB :: aA.aB :: x16 :: aA.aB :: aA.aB :: aA.aB :: aA.aB :: []) h n := by
 have hlen := ha.len
 have hm : maxLen = 9223372036854775807 := rfl
 intro m
 induction m with
 | zero =>
  intro i x3 x7 x16 hi hs
  have : i = os.length := by omega
  subst this
  have hc : ¬ ((os.length : Nat) : Int) < ((os.length : Nat) : Int) := by omega
  rw [bP]
  simp only [CR, bC, Try.f30, Option.getD_some, fgr, bor, List.getD_cons_zero, hc, gE]
  rw [List.take_length] at hs
  exact hq _ _ _ hs
 | succ m ih =>
  intro i x3 x7 x16 hi hs
  have hil : i < os.length := by omega
  have hc : ((i : Nat) : Int) < ((os.length : Nat) : Int) := by omega
  have hwr : IntKind.i64.wrap (((i : Nat) : Int) + 1) = ((i + 1 : Nat) : Int) := by rw [w64 (by omega) (by omega)]; omega
  obtain ⟨sv, e, hv⟩ := ha.at_ i hil
  have hr0 := ha.rd h
  have m1 := jN hr0 (by omega) (i * 72) 1
  have m2 := jN hr0 (by omega) (i * 72 + 1) 35
  have hx : xs[i * 72 + 1 + 35]? = some sv := by
   rw [show i * 72 + 1 + 35 = i * 72 + (35 + 1) by omega, AE e (by omega), HW hv.ok (by omega)]
   exact fT hv.ok.h 2
  rw [bP]
  simp only [CR, bC, Try.f30, Option.getD_some, fgr, bor, List.getD_cons_zero, hc, gE]
  rw [aF (hr0.idx (j := i) u65 z91 rfl hil)]
  simp only [tyr, m1, m2, gE]
  rw [aF (hr0.load (k := i * 72 + 1 + 35) jJ rfl hx)]
  by_cases hov : 200 < os[i].v.aE.length
  ·have hc2 : 200 < ((os[i].v.aE.length : Nat) : Int) := by omega
   simp only [fgr, builtin, bor, gt_iff_lt, (hv.s.bytes h).cP t29, hc2, gE]
   exact hr _ _ _ _ (List.any_eq_true.2 ⟨_, List.getElem_mem hil, decide_eq_true hov⟩)
  ·have hc2 : ¬ 200 < ((os[i].v.aE.length : Nat) : Int) := by omega
   simp only [fgr, builtin, bor, bR, gt_iff_lt, (hv.s.bytes h).cP t29, hc2, hwr, gE]
   refine ih (i + 1) _ _ _ (by omega) ?_
   rw [List.take_add_one, List.getElem?_eq_getElem hil, Option.toList_some, List.any_append, hs]
   simp [AG, hov]
theorem f30 (a : aA) (os : List OpI) (xs : List aA) (h : Hp) (n : Nat) (ha : zQ a os xs) :
  Wp (bO env (aX env) 30 [a]) h n fun v' h' n' => v' = .bool (qE os) ∧ h' = h ∧ n' = n := by
 refine bG ak0 ZY ?_
 have hr0 := ha.rd h
 simp only [RT, Try.f30, Option.getD_some, List.replicate, fgr, builtin, Nat.reduceSub, hr0.cP u65, gE]
 refine PU _ _ a os xs h n ha ?_ ?_ os.length 0 _ _ _ (by omega) rfl
 ·intro x3 x7 x16 hn
  by_cases h80 : 80 < os.length
  ·have hc : 80 < ((os.length : Nat) : Int) := by omega
   simp only [fgr, builtin, bor, gt_iff_lt, hr0.cP u65, hc, qE, hn, h80, gE]
  ·have hc : ¬ 80 < ((os.length : Nat) : Int) := by omega
   simp only [fgr, builtin, bor, gt_iff_lt, hr0.cP u65, hc, qE, hn, h80, gE]
 ·intro x3 x7 x16 z hn
  simp only [cC, nth, Bool.true_or, and_self, qE, hn]
theorem AW {os : List OpI} (h : qE os = false) : os.length ≤ 80 ∧ ∀ o ∈ os, o.v.aE.length ≤ 200 := by
 unfold qE at h
 simp only [Bool.or_eq_false_iff, decide_eq_false_iff_not] at h
 refine ⟨by omega, fun o ho => ?_⟩
 by_cases q : 200 < o.v.aE.length
 ·rw [List.any_eq_true.2 ⟨o, ho, decide_eq_true q⟩] at h; cases h.1
 ·omega
section
variable {h : Hp} {n id : Nat} {o : OpI} {sv : aA}
theorem F0 (hr : Row h id (gD o sv)) : Rd (load env 3 (.ptr id 0)) h n [id] (.int .i64 o.kind) := hr.one rfl ti3 rfl
theorem DV (hr : Row h id (gD o sv)) (ho : o.v.Ok) : Rd (load env 3 (.ptr id 71)) h n [id] (.int .i64 o.at_) := hr.one (by
 unfold gD
 rw [List.getElem?_cons_succ, List.getElem?_append_right (by rw [aW ho.h ho.b]; omega), aW ho.h ho.b]; rfl) ti3 rfl
theorem P8 (hr : Row h id (gD o sv)) (ho : o.v.Ok) : Rd (load env 31 (.ptr id 1)) h n [id] (.agg (aH o.v sv)) := by
 have := hr.agg (E := env) (n := n) (off := 1) dZ rfl (by rw [C7 ho]; decide)
 have e : ((gD o sv).drop 1).take 70 = aH o.v sv := by
  unfold gD
  rw [List.drop_one, List.tail_cons, List.take_append_of_le_length (by rw [aW ho.h ho.b]; omega), List.take_of_length_le (by rw [aW ho.h ho.b]; omega)]
 exact e ▸ this
end
theorem xS (v : Ver) : tC v v = true := by
 unfold tC
 simp [show lK v.aG v.pn v.aG v.pn = 0 from TS.refl v]
theorem mE : ∀ l : List Ver, eqL l l = true
 | [] => rfl
 | v :: l => by simp only [eqL, xS, mE l, Bool.and_self]
theorem VL.aO {h h' : Hp} {a b : Nat} {v : aA} {vs : List Ver} (l : VL h a b v vs) (hk : ∀ j, a ≤ j → j < b → h' j = h j) : VL h' a b v vs := by
 obtain ⟨cells, c1, c2, c3⟩ := l
 exact ⟨cells, c1.aO fun j q => hk j (c3 j q).1 (c3 j q).2, c2.mono (fun j q => q) (fun j q => hk j q.1 q.2.1), c3⟩
theorem VL.old {h h' : Hp} {a b n : Nat} {v : aA} {vs : List Ver} (l : VL h a b v vs) (hn : b ≤ n) (hk : Old h h' n) : VL h' a b v vs := l.aO fun j _ q => hk j (by omega)
theorem nZ {h : Hp} {n a b c d : Nat} {v w : aA} {vs ws : List Ver} (lv : VL h a b v vs) (lw : VL h c d w ws) (hb : b ≤ n) (hd : d ≤ n) (hc : vs.length ≤ 10000000) (hf : bI h n) :
  Wp (bO env (aX env) 35 [v, w]) h n fun v' h' n' => v' = .bool (eqL vs ws) ∧ Old h h' n := by
 obtain ⟨cv, v1, v2, v3⟩ := lv
 obtain ⟨cw, w1, w2, w3⟩ := lw
 exact f35 v w vs ws cv cw (fun j => j < n) h n hc v1.rds w1.rds (v2.toVs.mono (fun j q => by have := q.2.1; omega) (fun j q => rfl)) (w2.toVs.mono (fun j q => by have := q.2.1; omega) (fun j q => rfl)) (fun j q => by have := v3 j q; omega) (fun j q => by have := w3 j q; omega) (fun j q => q) hf
structure VAt (h : Hp) (a b : Nat) (v : aA) (k : Nat) (w : Ver) (sw : aA) : Prop where
 ok : w.Ok
 all : ∀ n, Rd (load env 31 (eM k v)) h n (rid v) (.agg (aH w sw))
 pt : ∀ n, Rd (load env 28 (eM k v)) h n (rid v) (.agg (aQ w.aG w.pn))
 made : ∀ n, Rd (load env 3 (eM (k + 33) v)) h n (rid v) (.int .i64 w.made)
 bW : ∀ n, Rd (load env 3 (eM (k + 37) v)) h n (rid v) (.int .i64 w.bW)
 aE : ∀ n, Rd (load env 29 (eM (k + 35) v)) h n (rid v) sw
 mv : ∀ k m, aM m (eM k v) = M.pure (eM (k + m) v)
 s : Bytes h sw w.aE
 sn : ∀ j, aL sw = some j → a ≤ j ∧ j < b
theorem VL.at_ {h : Hp} {a b : Nat} {v : aA} {vs : List Ver} (l : VL h a b v vs) {i : Nat} (hi : i < vs.length) : ∃ sw, VAt h a b v (i * 70) vs[i] sw := by
 obtain ⟨cells, c1, c2, c3⟩ := l
 obtain ⟨sw, e, bs, o, d⟩ := c2.at_ i hi
 have hr := c1.rds
 have hl : i * 70 + 70 ≤ cells.length := by rw [c2.len]; omega
 have one : ∀ k x, k < 70 → (aH vs[i] sw)[k]? = some x → cells[i * 70 + k]? = some x := fun k x hk hx => by rw [AE e hk, hx]
 refine ⟨sw, o, fun n => ?_, fun n => ?_, fun n => hr.load ti3 rfl (one 33 _ (by omega) (fT o.h 0)), fun n => hr.load ti3 rfl (one 37 _ (by omega) (fT o.h 4)), fun n => hr.load jJ rfl (one 35 _ (by omega) (fT o.h 2)), fun k m => jN hr (by omega) k m, bs, fun j q => ⟨(d j q).1, (d j q).2.1⟩⟩
 ·have := hr.agg (E := env) (n := n) (k := i * 70) dZ rfl (by decide) hl
  have e' : (cells.drop (i * 70)).take 70 = aH vs[i] sw := e
  exact e' ▸ this
 ·have := hr.agg (E := env) (n := n) (k := i * 70) gQ rfl (by decide) (by show i * 70 + 33 ≤ _; omega)
  have e' : (cells.drop (i * 70)).take 33 = aQ vs[i].aG vs[i].pn := by
   rw [← uA (sv := sw) o.h, ← e, List.take_take]; rfl
  exact e' ▸ this
theorem VL.len {h : Hp} {a b : Nat} {v : aA} {vs : List Ver} (l : VL h a b v vs) {ts : List TypeId} : cP env (43 :: ts) v = M.pure (.int .i64 (vs.length : Nat)) := by
 obtain ⟨cells, c1, c2, c3⟩ := l
 exact c1.rds.cP u43
theorem VL.idx {h : Hp} {a b : Nat} {v : aA} {vs : List Ver} (l : VL h a b v vs) {i : Nat} (hi : i < vs.length) {h' : Hp} {n' : Nat} : Rd (indexAddr env 43 v (.int .i64 ((i : Nat) : Int))) h' n' [] (eM (i * 70) v) := by
 obtain ⟨cells, c1, c2, c3⟩ := l
 exact c1.rds.idx u43 BV rfl hi
def b1 : List UInt8 := 1 :: List.replicate 31 0
theorem hG {α : Type} {l : List α} {i : Nat} (h : i < l.length) : l.take (i + 1) = l.take i ++ [l[i]] := by
 rw [List.take_add_one, List.getElem?_eq_getElem h]; rfl
theorem t128 : ti env 128 = M.pure ⟨.pointer 31, 1, 8, .fC⟩ := iI
theorem GC {h : Hp} {n b cnt : Nat} {v : aA} {xs : List aA} (hb : h b = some (.row (.l []) 128)) (hv : Rds h 1 v cnt xs) (h1 : xs.all bK = true) (hc : cnt ≤ 1000000) (hf : bI h n) :
  Wp (fP env [95, 95] (.sl b 0 0 (some 0) 1) v) h n fun v' h' n' => (cnt = 0 ∧ v' = .sl b 0 0 (some 0) 1 ∧ h' = h ∧ n' = n) ∨ (0 < cnt ∧ v' = .sl n 0 cnt none 1 ∧ h' = upd h n (some (.row (.l xs) 128)) ∧ n' = n + 1) := by
 simp only [fP, u95, aI, fD, append, t128, hv.len, gV]
 by_cases hk : cnt = 0
 ·subst hk
  rw [Nat.beq_refl]
  exact aS.2 (.inl ⟨rfl, rfl, rfl, rfl⟩)
 have hk0 : cnt.beq 0 = false := jU hk
 simp only [hk0]
 refine iH hv.cells ?_
 have r1 : ((2 * cnt * 8).ble room && cnt.ble room) = true := by
  unfold room
  rw [dQ (by omega), dQ (by omega)]; rfl
 have e0 : (0 + cnt).ble 0 = false := iE (by omega)
 have sc : cU 1 0 (.sl b 0 0 (some 0) 1) = (fX b).bind (cW fun c _ => (ob ((0 + 0 * 1).ble c.size)).bind fun _ => M.pure (c.sub 0 (0 * 1))) := rfl
 simp only [bL, gC, hb, Option.some.injEq, exists_eq_left', cW, gV, e0]
 refine iH (a := []) ((Rds.sl (sz := 1) b 0 0 (some 0) (.l []) 128 [] hb rfl (by simp) (fun j hj => by simp at hj)).cells) ?_
 simp only [iR, fQ, iT, aS, r1, true_and, Nat.zero_add, List.nil_append, and_self, and_true]
 exact .inr (by omega)
theorem Lp.JF {h : Hp} {v : aA} {cnt : Nat} {xs : List aA} (l : Lp h v cnt xs) : binOp env .eql 95 v .aT = M.pure (.bool (oB v)) ∧ (oB v = true → v = .aT ∧ cnt = 0 ∧ xs = []) := by
 cases l with
 | nil => exact ⟨rfl, fun _ => ⟨rfl, rfl, rfl⟩⟩
 | zero id off c hh hs => exact ⟨rfl, fun q => by cases q⟩
 | sl id cnt cells xs hh h0 hl hx => exact ⟨rfl, fun q => by cases q⟩
theorem f86 (v : aA) (cnt : Nat) (xs : List aA) (h : Hp) (n : Nat) (hv : Lp h v cnt xs) (h1 : xs.all bK = true) (hc : cnt ≤ 1000000) (hf : bI h n) :
  Wp (bO env (aX env) 86 [v]) h n fun v' h' n' => Lp h' v' cnt xs ∧ (∀ j, aL v' = some j → n ≤ j ∧ j < n') ∧ Old h h' n := by
 refine bG ag0 YU ?_
 obtain ⟨en, en2⟩ := hv.JF
 simp only [QK, Try.f86, Option.getD_some, List.replicate, fgr, Nat.reduceSub, en, gE]
 cases hnil : oB v with
 | true =>
  obtain ⟨e1, e2, e3⟩ := en2 hnil
  subst e1; subst e2; subst e3
  simp only [fgr, gE]
  exact ⟨.nil, (fun j q => by cases q), Old.refl _ _⟩
 | false =>
  simp only [tyr, buildSlice, gI, fill, Nat.ble, gE]
  refine i6 iI hf (f := fun id => aA.sl id 0 0 (some 0) 1) fun H r o f => ?_
  simp only [builtin, gE]
  have hv' := hv.aO (h' := H) fun j q => o j (by have := hv.dJ hf q; omega)
  have hlen := hv.rds.length
  refine HS (GC r hv'.rds h1 hc f) fun v2 h2 n2 hn2 hh => ?_
  simp only [fgr, gE]
  rcases hh with ⟨e1, e2, e3, e4⟩ | ⟨e1, e2, e3, e4⟩
  ·subst e1; subst e2; subst e3; subst e4
   have : xs = [] := List.eq_nil_of_length_eq_zero (by omega)
   subst this
   exact ⟨.zero n 0 _ r (Nat.zero_le _), (fun j q => by injection q with q; omega), fun j hj => o j (by omega)⟩
  ·subst e2; subst e3; subst e4
   have hxl : xs.length = cnt := by omega
   exact ⟨.sl (n + 1) cnt xs xs (bE _ _ _) (by omega) (by omega) (List.take_of_length_le (by omega)), (fun j q => by injection q with q; omega), fun j hj => by rw [aP _ _ (by omega), o j (by omega)]⟩
theorem f41 (x : Nat) (L : List Ver) (D M : Nat → Prop) (h : Hp) (n : Nat) (hs : Ix h n D M x L) (hc : L.length ≤ 1000000) (hf : bI h n) :
  Wp (bO env (aX env) 41 [.ptr x 0]) h n fun v' h' n' => ∃ y M', v' = .ptr y 0 ∧ Ix h' n' D M' y L ∧ (∀ j, M' j → n ≤ j) ∧ Old h h' n := by
 obtain ⟨⟨S, s0, rS, perm⟩, rL, ok⟩ := hs
 have s00 := s0
 obtain ⟨vl, vs, xl, xs, iv, mx, ml, ms, mn⟩ := s00
 refine bG aj0 ZO ?_
 simp only [RE, Try.f41, Option.getD_some, List.replicate, fgr, hkr, Nat.reduceSub, gE]
 refine eU (f73 x _ true h n iv.row rfl) ?_
 simp only [fgr, hkr, gE]
 refine bD hf (f40 h n hf) fun v1 h1 n1 hn1 f1 ⟨y, e1, hy, i1, o1⟩ => ?_
 subst e1
 obtain ⟨⟨S1, ⟨vl1, vs1, xl1, xs1, jv, _⟩, _⟩, _⟩ := i1
 have yn := jv.xn
 obtain ⟨e0, jr⟩ := jv.row
 have row1 := iv.row.aO (o1 x iv.xn)
 have lp1 := iv.l.aO (h' := h1) fun j q => o1 j (mn j (ml j q)).1
 have ls1 := iv.s.aO (h' := h1) fun j q => o1 j (mn j (ms j q)).1
 have xn := iv.xn
 have xy : x ≠ y := by omega
 have hSl : S.length = L.length := perm.length_eq.symm
 simp only [fgr, gE]
 refine bY ⟨rfl, ?_⟩
 simp only [tyr, aM, Nat.reduceAdd, gE]
 rw [aR (row1.one (off := 1) rfl mK rfl)]
 simp only [hkr, Nat.reduceAdd, gE]
 have fo1 : ∀ S : Nat → Bool, bI (only S h1) n1 := fun S => f1.only
 refine jE (fun j => decide (aL vl = some j)) f1 (f86 vl L.length xl (only (fun j => decide (aL vl = some j)) h1) n1 (lp1.aO fun j q => fN (decide_eq_true q)) iv.lp.cells hc (fo1 _)) fun v2 h2 n2 r2 w2 hr2 hn2 f2 ⟨l2, i2, o2⟩ hin hout hr hw => ?_
 have vln : ∀ j, aL vl = some j → j < n ∧ j ≠ x ∧ j ≠ y := fun j q => by
  have h1 := (mn j (ml j q)).1
  exact ⟨h1, (iv.vlx j q).1, by omega⟩
 have vsn : ∀ j, aL vs = some j → j < n ∧ j ≠ x ∧ j ≠ y := fun j q => by
  have h1 := (mn j (ms j q)).1
  exact ⟨h1, (iv.vsx j q).1, by omega⟩
 have old2 : Old h1 h2 n1 := fun j hj => by
  by_cases q : aL vl = some j
  ·rw [hin j (.inl (decide_eq_true q)), o2 j hj, fN (decide_eq_true q)]
  ·exact hout j hj (decide_eq_false q)
 have l2' : Lp h2 v2 L.length xl := l2.aO fun j q => hin j (.inr (i2 j q).1)
 simp only [tyr, aM, Nat.reduceAdd, gE]
 rw [aR ((row1.aO (old2 x (by have := iv.xn; omega))).one (off := 3) rfl mK rfl)]
 simp only [hkr, Nat.reduceAdd, gE]
 have ls2 := ls1.aO (h' := h2) fun j q => old2 j (by have := (vsn j q).1; omega)
 have fo2 : ∀ S : Nat → Bool, bI (only S h2) n2 := fun S => f2.only
 refine jE (fun j => decide (aL vs = some j)) f2 (f86 vs S.length xs (only (fun j => decide (aL vs = some j)) h2) n2 (ls2.aO fun j q => fN (decide_eq_true q)) iv.sp.cells (by omega) (fo2 _)) fun v3 h3 n3 r3 w3 hr3 hn3 f3 ⟨l3, i3, o3⟩ hin3 hout3 hr3' hw3 => ?_
 have old3 : Old h2 h3 n2 := fun j hj => by
  by_cases q : aL vs = some j
  ·rw [hin3 j (.inl (decide_eq_true q)), o3 j hj, fN (decide_eq_true q)]
  ·exact hout3 j hj (decide_eq_false q)
 have l3' : Lp h3 v3 S.length xs := l3.aO fun j q => hin3 j (.inr (i3 j q).1)
 have l2'' : Lp h3 v2 L.length xl := l2'.aO fun j q => old3 j (i2 j q).2
 have jr3 : h3 y = some (.row (.l [.bool true, vl1, fo false, vs1, fo true]) e0) := by rw [old3 y (by omega), old2 y (by omega)]; exact jr
 simp only [tyr, aM, Nat.reduceAdd, gE]
 have k2 := l2.rds.kind
 have k3 := l3.rds.kind
 refine mS (Row.fH (v := v2) jr3 mK (by rw [k2.1]; rfl) (by show 1 + 1 ≤ 5; omega) (by rw [k2.1]; simp [k2.2.1])) ?_
 rw [k2.1, show bV [.bool true, vl1, fo false, vs1, fo true] 1 [v2] = [.bool true, v2, fo false, vs1, fo true] from rfl]
 simp only [tyr, aM, Nat.reduceAdd, gE]
 refine mS (Row.fH (v := v3) (bE _ _ _) mK (by rw [k3.1]; rfl) (by show 3 + 1 ≤ 5; omega) (by rw [k3.1]; simp [k3.2.1])) ?_
 rw [k3.1, show bV [.bool true, v2, fo false, vs1, fo true] 3 [v3] = [.bool true, v2, fo false, v3, fo true] from rfl]
 simp only [fgr, Nat.reduceAdd, gE]
 have nx2 : x ∉ w2 := fun q => (vln x (of_decide_eq_true (hw x q))).2.1 rfl
 have ny2 : y ∉ w2 := fun q => (vln y (of_decide_eq_true (hw y q))).2.2 rfl
 have nry2 : y ∉ r2 := fun q => (vln y (of_decide_eq_true (hr y q))).2.2 rfl
 have nx3 : x ∉ w3 := fun q => (vsn x (of_decide_eq_true (hw3 x q))).2.1 rfl
 have ny3 : y ∉ w3 := fun q => (vsn y (of_decide_eq_true (hw3 y q))).2.2 rfl
 have nry3 : y ∉ r3 := fun q => (vsn y (of_decide_eq_true (hr3' y q))).2.2 rfl
 refine ⟨(by (try simp (disch := first | assumption | omega) only [dX, gF]); repeat' (first | rfl | exact (Bool.or_eq_true _ _).mpr (.inr rfl) | refine (Bool.and_eq_true _ _).mpr ⟨?_, ?_⟩)), ?_⟩
 obtain ⟨H4, hH4⟩ : ∃ H4, H4 = upd (upd h3 y (some (Blk.row (bH.l [aA.bool true, v2, fo false, vs1, fo true]) e0))) y (some (Blk.row (bH.l [aA.bool true, v2, fo false, v3, fo true]) e0)) := ⟨_, rfl⟩
 have o4 : ∀ j, j ≠ y → H4 j = h3 j := fun j hj => by rw [hH4, aP _ _ hj, aP _ _ hj]
 have r4 : Row H4 y [.bool true, v2, fo false, v3, fo true] := by rw [hH4]; exact Row.new _ _ _ _
 rw [← hH4]
 clear hH4
 have old4 : Old h H4 n := fun j hj => by rw [o4 j (by omega), old3 j (by omega), old2 j (by omega), o1 j hj]
 have hdn := iv.dn
 refine ⟨y, fun j => j = y ∨ aL v2 = some j ∨ aL v3 = some j, rfl, ⟨⟨S, ⟨v2, v3, xl, xs, ⟨r4, l2''.aO fun j q => o4 j (by have := i2 j q; omega), iv.lp.mono (fun j q => q) (fun j q => old4 j (hdn j q)), l3'.aO fun j q => o4 j (by have := i3 j q; omega), iv.sp.mono (fun j q => q) (fun j q => old4 j (hdn j q)), by omega, fun j q => by have := hdn j q; omega, fun q => by have := hdn y q; omega, fun j q => ⟨by have := i2 j q; omega, fun w => by have := hdn j w; have := i2 j q; omega⟩, fun j q => ⟨by have := i3 j q; omega, fun w => by have := hdn j w; have := i3 j q; omega, fun w => by have := i2 j w; have := i3 j q; omega⟩⟩, .inl rfl, fun j q => .inr (.inl q), fun j q => .inr (.inr q), fun j q => ?_⟩, rS, perm⟩, rL, ok⟩, fun j q => ?_, old4⟩
 ·rcases q with q | q | q
  ·subst q; exact ⟨by omega, fun w => by have := hdn _ w; omega⟩
  ·have := i2 j q; exact ⟨by omega, fun w => by have := hdn j w; omega⟩
  ·have := i3 j q; exact ⟨by omega, fun w => by have := hdn j w; omega⟩
 ·rcases q with q | q | q
  ·omega
  ·have := i2 j q; omega
  ·have := i3 j q; omega
def kpB (ls : List (List UInt8)) (j : Nat) : Bool := j == 0 || (ls.getD j [] != ls.getD (j - 1) [])
def kp (ls : List (List UInt8)) (m : Nat) : List Nat := (List.range m).filter (kpB ls)
theorem IM (ls : List (List UInt8)) (m : Nat) : kp ls (m + 1) = if kpB ls m then kp ls m ++ [m] else kp ls m := by
 unfold kp
 rw [List.range_succ, List.filter_append]
 cases h : kpB ls m with
 | true => simp [h]
 | false => simp [h]
theorem NH (ls : List (List UInt8)) (m : Nat) : (kp ls m).length ≤ m := by
 have := List.length_filter_le (kpB ls) (List.range m)
 rwa [List.length_range] at this
theorem NG {ls : List (List UInt8)} {m j : Nat} (h : j ∈ kp ls m) : j < m := List.mem_range.1 (List.mem_filter.1 h).1
def pI (ls : List (List UInt8)) : List (List UInt8) := (kp ls ls.length).map fun j => ls.getD j []
def Up (ls : List (List UInt8)) : Prop := ls.Pairwise fun a b => Lib.compareBytes a b ≤ 0
theorem JS {a b c : List UInt8} (h1 : Lib.compareBytes a b ≤ 0) (h2 : Lib.compareBytes b c < 0) : Lib.compareBytes a c < 0 := by
 rcases Int.lt_or_eq_of_le h1 with h | h
 ·exact JR _ _ _ h h2
 ·rw [vR _ _ h]; exact h2
theorem MU {ls : List (List UInt8)} (u : Up ls) : (pI ls).Pairwise fun a b => Lib.compareBytes a b < 0 := by
 unfold pI
 rw [List.pairwise_map]
 unfold kp
 refine (List.Pairwise.filter _ (List.pairwise_lt_range (n := ls.length))).imp_of_mem fun {a b} ha hb hab => ?_
 obtain ⟨ha1, ha2⟩ := List.mem_filter.1 ha
 obtain ⟨hb1, hb2⟩ := List.mem_filter.1 hb
 rw [List.mem_range] at ha1 hb1
 have g : ∀ j (hj : j < ls.length), ls.getD j [] = ls[j] := fun j hj => by rw [List.getD_eq_getElem?_getD, List.getElem?_eq_getElem hj]; rfl
 unfold kpB at hb2
 rw [g b hb1, g (b - 1) (by omega)] at hb2
 have hne : ls[b] ≠ ls[b - 1] := by
  have : (b == 0) = false := by simp; omega
  rw [this] at hb2
  simpa using hb2
 rw [g a ha1, g b hb1]
 have h2 : Lib.compareBytes ls[b - 1] ls[b] ≤ 0 := List.pairwise_iff_getElem.1 u (b - 1) b (by omega) hb1 (by omega)
 have h2' : Lib.compareBytes ls[b - 1] ls[b] < 0 := by
  rcases Int.lt_or_eq_of_le h2 with h | h
  ·exact h
  ·exact absurd (vR _ _ h).symm hne
 by_cases e : a = b - 1
 ·subst e; exact h2'
 ·exact JS (List.pairwise_iff_getElem.1 u a (b - 1) ha1 (by omega) (by omega)) h2'
theorem JM {ls : List (List UInt8)} {d : List UInt8} : d ∈ pI ls ↔ d ∈ ls := by
 have g : ∀ j (hj : j < ls.length), ls.getD j [] = ls[j] := fun j hj => by rw [List.getD_eq_getElem?_getD, List.getElem?_eq_getElem hj]; rfl
 unfold pI
 rw [List.mem_map]
 constructor
 ·rintro ⟨j, hj, rfl⟩
  have := NG hj
  rw [g j this]
  exact List.getElem_mem this
 ·intro h
  obtain ⟨j, hj, rfl⟩ := List.mem_iff_getElem.1 h
  have key : ∀ j (hj : j < ls.length), ∃ a, a ∈ kp ls ls.length ∧ ls.getD a [] = ls[j] := by
   intro j
   induction j with
   | zero =>
    intro hj
    exact ⟨0, List.mem_filter.2 ⟨List.mem_range.2 hj, rfl⟩, g 0 hj⟩
   | succ j ih =>
    intro hj
    by_cases c : ls[j + 1] = ls[j]
    ·obtain ⟨a, h1, h2⟩ := ih (by omega)
     exact ⟨a, h1, h2.trans c.symm⟩
    ·refine ⟨j + 1, List.mem_filter.2 ⟨List.mem_range.2 hj, ?_⟩, g _ hj⟩
     unfold kpB
     rw [g _ hj, g (j + 1 - 1) (by omega)]
     simpa using c
  exact key j hj
structure Bs (h : Hp) (D : Nat → Prop) (xs : List aA) (ls : List (List UInt8)) : Prop where
 len : xs.length = ls.length
 at_ : ∀ (j : Nat) (hj : j < ls.length), ∃ x, xs[j]? = some x ∧ Bytes h x ls[j] ∧ ∀ i, aL x = some i → D i
theorem Bs.nil (h : Hp) (D : Nat → Prop) : Bs h D [] [] := ⟨rfl, fun j hj => by simp at hj⟩
theorem Bs.mono {h h' : Hp} {D D' : Nat → Prop} {xs : List aA} {ls : List (List UInt8)} (p : Bs h D xs ls) (hd : ∀ j, D j → D' j) (hk : ∀ j, D j → h' j = h j) : Bs h' D' xs ls :=
 ⟨p.len, fun j hj => by
  obtain ⟨x, e, b, d⟩ := p.at_ j hj
  exact ⟨x, e, b.aO fun i q => hk i (d i q), fun i q => hd i (d i q)⟩⟩
theorem Bs.wI {h : Hp} {D : Nat → Prop} {xs : List aA} {ls : List (List UInt8)} (p : Bs h D xs ls) {x : aA} {l : List UInt8} (hb : Bytes h x l) (hd : ∀ i, aL x = some i → D i) : Bs h D (xs ++ [x]) (ls ++ [l]) := by
 refine ⟨by simp [p.len], fun j hj => ?_⟩
 by_cases c : j < ls.length
 ·obtain ⟨y, e, b, d⟩ := p.at_ j c
  refine ⟨y, ?_, ?_, d⟩
  ·rw [List.getElem?_append_left (by rw [p.len]; exact c), e]
  ·rw [List.getElem_append_left c]; exact b
 ·have e : j = ls.length := by simp at hj; omega
  subst e
  refine ⟨x, ?_, ?_, hd⟩
  ·rw [← p.len]; simp
  ·simpa using hb
theorem Bs.kind {h : Hp} {D : Nat → Prop} {xs : List aA} {ls : List (List UInt8)} (p : Bs h D xs ls) : xs.all bK = true := KK fun j x hx => by
 have hj := (List.getElem?_eq_some_iff.1 hx).1
 obtain ⟨y, e, b, _⟩ := p.at_ j (by rw [← p.len]; exact hj)
 rw [hx] at e
 injection e with e
 rw [e]; exact b.kind.2.1
theorem Bs.sel {h : Hp} {D : Nat → Prop} {xs : List aA} {ls : List (List UInt8)} (p : Bs h D xs ls) (js : List Nat) (hjs : ∀ j ∈ js, j < ls.length) : Bs h D (js.map fun j => xs.getD j .aB) (js.map fun j => ls.getD j []) := by
 refine ⟨by simp, fun k hk => ?_⟩
 rw [List.length_map] at hk
 have hj := hjs _ (List.getElem_mem hk)
 obtain ⟨x, e, b, d⟩ := p.at_ _ hj
 refine ⟨x, ?_, ?_, d⟩
 ·rw [List.getElem?_map, List.getElem?_eq_getElem hk]
  simp [List.getD_eq_getElem?_getD, e]
 ·simp [List.getD_eq_getElem?_getD, hj, b]
def BL (h : Hp) (n0 n : Nat) (v : aA) (ls : List (List UInt8)) : Prop := ∃ xs, Lst h 29 1 v ls.length xs ∧ Bs h (fun j => n0 ≤ j ∧ j < n ∧ aL v ≠ some j) xs ls ∧ ∀ j, aL v = some j → n0 ≤ j ∧ j < n
theorem BL.aO {h h' : Hp} {a b : Nat} {v : aA} {ls : List (List UInt8)} (l : BL h a b v ls) (hk : ∀ j, a ≤ j → j < b → h' j = h j) : BL h' a b v ls := by
 obtain ⟨cells, c1, c2, c3⟩ := l
 exact ⟨cells, c1.aO fun j q => hk j (c3 j q).1 (c3 j q).2, c2.mono (fun j q => q) (fun j q => hk j q.1 q.2.1), c3⟩
theorem BL.old {h h' : Hp} {a b n : Nat} {v : aA} {ls : List (List UInt8)} (l : BL h a b v ls) (hn : b ≤ n) (hk : Old h h' n) : BL h' a b v ls := l.aO fun j _ q => hk j (by omega)
theorem BL.len {h : Hp} {a b : Nat} {v : aA} {ls : List (List UInt8)} (l : BL h a b v ls) {u : TypeId} {ts : List TypeId} (hu : und env u = M.pure (.slice 29)) : cP env (u :: ts) v = M.pure (.int .i64 (ls.length : Nat)) := by
 obtain ⟨cells, c1, c2, c3⟩ := l
 exact c1.rds.cP hu
theorem u81 : und env 81 = M.pure (.slice 29) := rfl
theorem z29 : sizeOf env 29 = M.pure 1 := rfl
theorem BL.idx {h : Hp} {a b : Nat} {v : aA} {ls : List (List UInt8)} (l : BL h a b v ls) {i : Nat} (hi : i < ls.length) {h' : Hp} {n' : Nat} : Rd (indexAddr env 81 v (.int .i64 ((i : Nat) : Int))) h' n' [] (eM (i * 1) v) := by
 obtain ⟨cells, c1, c2, c3⟩ := l
 exact c1.rds.idx u81 z29 rfl hi
theorem BL.at_ {h : Hp} {a b : Nat} {v : aA} {ls : List (List UInt8)} (l : BL h a b v ls) {i : Nat} (hi : i < ls.length) : ∃ x, (∀ n, Rd (load env 29 (eM (i * 1) v)) h n (rid v) x) ∧ Bytes h x ls[i] ∧ ∀ j, aL x = some j → a ≤ j ∧ j < b := by
 obtain ⟨cells, c1, c2, c3⟩ := l
 obtain ⟨x, e, b, d⟩ := c2.at_ i hi
 exact ⟨x, fun n => c1.rds.load jJ rfl (by rw [Nat.mul_one]; exact e), b, fun j q => ⟨(d j q).1, (d j q).2.1⟩⟩
theorem PX (ls : List (List UInt8)) {a b : Nat} (h : a ≤ b) : (kp ls b).length ≤ (kp ls a).length + (b - a) := by
 obtain ⟨d, rfl⟩ := Nat.exists_eq_add_of_le h
 induction d with
 | zero => simp
 | succ d ih =>
  have := ih (by omega)
  rw [← Nat.add_assoc, IM]
  split
  ·rw [List.length_append, List.length_singleton]; omega
  ·omega
def fEq : aA := .fn (.func 89) [] []
theorem I8 (Q : dM) (ks : List Kf) (id cnt i : Nat) (cap cS : Option Nat) (cells xs : List aA) (ls : List (List UInt8)) (D : Nat → Prop) (h0 : Hp) (n : Nat) (hf0 : bI h0 n) (hidn : id < n)
  (hD : ¬ D id) (hcl : cnt ≤ cells.length) (hxs : cells.take cnt = xs) (hlen : ls.length = cnt) (bs : Bs h0 D xs ls) (hi : 1 ≤ i ∧ i < cnt) (hc : cnt ≤ 1000000) (hki : (kp ls (i + 1)).length = i)
  (hT : ∀ (h : Hp) (ys : List aA) (z : aA) (x4 x10 x15 x28 x35 x49 : aA), h id = some (.row (.l ys) 29) → ys.length = cells.length → ys.take (kp ls cnt).length = (kp ls cnt).map (fun j => xs.getD j .aB) → (∀ j, j ≠ id → h j = h0 j) →
   dR env 91 none Q ks (.exit 2) (.sl id 0 cnt cap 1 :: fEq :: aA.aB :: aA.aB :: x4 :: .int .i64 ((kp ls cnt).length : Nat) :: .sl id i (cnt - i) cS 1 :: z :: aA.aB :: aA.aB :: x10 :: aA.aB :: aA.aB :: aA.aB :: aA.aB :: x15 :: aA.aB :: aA.aB :: aA.aB :: aA.aB :: aA.aB :: aA.aB :: aA.aB :: aA.aB :: aA.aB :: aA.aB :: aA.aB :: aA.aB :: x28 :: aA.aB :: aA.aB :: aA.aB :: aA.aB :: aA.aB :: aA.aB :: x35 :: aA.aB :: aA.aB :: aA.aB :: aA.aB :: aA.aB :: aA.aB :: aA.aB :: aA.aB :: aA.aB :: aA.aB :: aA.aB :: aA.aB :: aA.aB :: x49 :: aA.aB :: aA.aB :: aA.aB :: aA.aB :: aA.aB :: aA.aB :: aA.aB :: aA.aB :: aA.aB :: aA.aB :: aA.aB :: aA.aB :: aA.aB :: aA.aB :: aA.aB :: aA.aB :: []) h n) :
  ∀ (m k2 k : Nat) (h : Hp) (ys : List aA) (x4 x10 x15 x28 x35 x49 : aA), k2 + m = cnt - i → 1 ≤ k2 → k = (kp ls (i + k2)).length → h id = some (.row (.l ys) 29) → ys.length = cells.length → ys.take k = (kp ls (i + k2)).map (fun j => xs.getD j .aB) → (∀ j, k ≤ j → ys[j]? = cells[j]?) → (∀ j, j ≠ id → h j = h0 j) →
   Run env 91 none Q (.loop CA) ks (.sl id 0 cnt cap 1 :: fEq :: aA.aB :: aA.aB :: x4 :: .int .i64 (k : Nat) :: .sl id i (cnt - i) cS 1 :: .int .i64 (k2 : Nat) :: aA.aB :: aA.aB :: x10 :: aA.aB :: aA.aB :: aA.aB :: aA.aB :: x15 :: aA.aB :: aA.aB :: aA.aB :: aA.aB :: aA.aB :: aA.aB :: aA.aB :: aA.aB :: aA.aB :: aA.aB :: aA.aB :: aA.aB :: x28 :: aA.aB :: aA.aB :: aA.aB :: aA.aB :: aA.aB :: aA.aB :: x35 :: aA.aB :: aA.aB :: aA.aB :: aA.aB :: aA.aB :: aA.aB :: aA.aB :: aA.aB :: aA.aB :: aA.aB :: aA.aB :: aA.aB :: aA.aB :: x49 :: aA.aB :: aA.aB :: aA.aB :: aA.aB :: aA.aB :: aA.aB :: aA.aB :: aA.aB :: aA.aB :: aA.aB :: aA.aB :: aA.aB :: aA.aB :: aA.aB :: aA.aB :: aA.aB :: []) h n := by
 have b81 : ∀ (id off len : Nat) (cap : Option Nat), cP env [81] (.sl id off len cap 1) = M.pure (.int .i64 (len : Nat)) := fun _ _ _ _ => rfl
 intro m
 induction m with
 | zero =>
  intro k2 k h ys x4 x10 x15 x28 x35 x49 hm h1 hk hh hyl htk hrest hold
  subst hk
  have e : i + k2 = cnt := by omega
  rw [bP]
  have hcc : ¬ (((k2 : Nat) : Int) < ((cnt - i : Nat) : Int)) := by omega
  simp only [CA, bC, Try.f91, Option.getD_some, fgr, builtin, bor, List.getD_cons_zero, List.getD_cons_succ, b81, hcc, gE]
  rw [e] at htk ⊢
  exact hT h ys _ _ _ _ _ _ _ hh hyl htk hold
 | succ m ih =>
  intro k2 k h ys x4 x10 x15 x28 x35 x49 hm h1 hk hh hyl htk hrest hold
  have hcc : (((k2 : Nat) : Int) < ((cnt - i : Nat) : Int)) := by omega
  have hf : bI h n := fun j hj => by rw [hold j (by omega)]; exact hf0 j hj
  have hkl : (kp ls (i + k2)).length + 1 ≤ i + k2 := by
   have := PX ls (a := i + 1) (b := i + k2) (by omega)
   omega
  rw [← hk] at hkl
  have w1 : IntKind.i64.wrap (((k2 : Nat) : Int) - 1) = ((k2 - 1 : Nat) : Int) := by rw [w64 (by omega) (by omega)]; omega
  have w2 : IntKind.i64.wrap (((k2 : Nat) : Int) + 1) = ((k2 + 1 : Nat) : Int) := by rw [w64 (by omega) (by omega)]; omega
  have w3 : IntKind.i64.wrap (((k : Nat) : Int) + 1) = ((k + 1 : Nat) : Int) := by rw [w64 (by omega) (by omega)]; omega
  obtain ⟨x, ex, bx, dx⟩ := bs.at_ (i + k2) (by omega)
  obtain ⟨y, ey, byt, dy⟩ := bs.at_ (i + (k2 - 1)) (by omega)
  have cx : ys[i + k2 * 1]? = some x := by
   rw [Nat.mul_one, hrest _ (by omega), ← ex, ← hxs, List.getElem?_take, if_pos (by omega)]
  have cy : ys[i + (k2 - 1) * 1]? = some y := by
   rw [Nat.mul_one, hrest _ (by omega), ← ey, ← hxs, List.getElem?_take, if_pos (by omega)]
  have bx' : Bytes h x ls[i + k2] := bx.aO fun j q => hold j fun w => hD (w ▸ dx j q)
  have by' : Bytes h y ls[i + (k2 - 1)] := byt.aO fun j q => hold j fun w => hD (w ▸ dy j q)
  have kb : kpB ls (i + k2) = !(ls[i + k2] == ls[i + (k2 - 1)]) := by
   unfold kpB
   have e1 : (i + k2 == 0) = false := by simp; omega
   rw [e1, Bool.false_or, List.getD_eq_getElem?_getD, List.getD_eq_getElem?_getD, show i + k2 - 1 = i + (k2 - 1) by omega, List.getElem?_eq_getElem (show i + k2 < ls.length by omega), List.getElem?_eq_getElem (show i + (k2 - 1) < ls.length by omega)]
   rfl
  rw [bP]
  simp only [CA, bC, Try.f91, Option.getD_some, fgr, builtin, bor, List.getD_cons_zero, List.getD_cons_succ, b81, hcc, gE]
  refine bY ⟨rfl, ?_⟩
  simp only [Nat.reduceAdd, gE]
  rw [aR (pW (j := k2) u81 z29 rfl (by omega))]
  simp only [Nat.reduceAdd, gE]
  rw [aR (pD hh cx jJ rfl)]
  simp only [bor, bR, Nat.reduceAdd, w1, gE]
  rw [aR (pW (j := k2 - 1) u81 z29 rfl (by omega))]
  simp only [Nat.reduceAdd, gE]
  rw [aR (pD hh cy jJ rfl)]
  simp only [hkr, Nat.reduceAdd, fEq, gE]
  refine cK hf (f89 x y ls[i + k2] ls[i + (k2 - 1)] h n bx' by') fun v6 h6 n6 r6 w6 hn6 f6 ⟨e6, e7, e8⟩ => ?_
  subst e6; subst e7; subst e8
  cases hq : (ls[i + k2] == ls[i + (k2 - 1)]) with
  | true =>
   rw [hq] at kb
   have e1 : kp ls (i + (k2 + 1)) = kp ls (i + k2) := by rw [← Nat.add_assoc, IM, kb]; rfl
   simp only [fgr, bor, bR, unOp, Nat.reduceAdd, gE]
   refine ⟨(by (try simp (disch := first | assumption | omega) only [dX, gF]); repeat' (first | rfl | exact (Bool.or_eq_true _ _).mpr (.inr rfl) | refine (Bool.and_eq_true _ _).mpr ⟨?_, ?_⟩)), ?_⟩
   simp only [w2]
   exact ih (k2 + 1) k h6 ys _ _ _ _ _ _ (by omega) (by omega) (by rw [e1, ← hk]) hh hyl (by rw [e1]; exact htk) hrest hold
  | false =>
   rw [hq] at kb
   have e1 : kp ls (i + (k2 + 1)) = kp ls (i + k2) ++ [i + k2] := by rw [← Nat.add_assoc, IM, kb]; rfl
   have hkc : k < ys.length := by omega
   simp only [fgr, unOp, Nat.reduceAdd, gE]
   refine ⟨(by (try simp (disch := first | assumption | omega) only [dX, gF]); repeat' (first | rfl | exact (Bool.or_eq_true _ _).mpr (.inr rfl) | refine (Bool.and_eq_true _ _).mpr ⟨?_, ?_⟩)), ?_⟩
   rw [aF (pW (j := k2) u81 z29 rfl (by omega))]
   simp only [gE]
   rw [aF (pD hh cx jJ rfl)]
   simp only [gE]
   rw [aF (pW (j := k) u81 z29 rfl (by omega))]
   simp only [gE]
   have kx := bx.kind
   rw [eQ (Row.fH (v := x) hh jJ (by rw [kx.1]; rfl) (by show k * 1 + 1 ≤ ys.length; omega) (by rw [kx.1]; simp [kx.2.1]))]
   rw [kx.1]
   simp only [fgr, bor, bR, w2, w3, gE]
   have hsl : (bV ys (k * 1) [x]).length = ys.length := eA (by rw [List.length_singleton]; omega)
   refine ih (k2 + 1) (k + 1) (upd h6 id (some (.row (.l (bV ys (k * 1) [x])) 29))) (bV ys (k * 1) [x]) _ _ _ _ _ _ (by omega) (by omega) (by rw [e1, List.length_append, ← hk]; rfl) (bE _ _ _) (by rw [hsl, hyl]) ?_ (fun j hj => ?_) (fun j hj => by rw [aP _ _ hj]; exact hold j hj)
   ·rw [e1, List.map_append, Nat.mul_one]
    have t := lL (xs := ys) (ys := [x]) (a := k) (by rw [List.length_singleton]; omega)
    rw [List.length_singleton] at t
    rw [t, htk]
    congr 1
    simp [List.getD_eq_getElem?_getD, ex]
   ·rw [iN (by rw [List.length_singleton]; omega), if_neg (by rw [List.length_singleton]; omega)]
    exact hrest j (by omega)
theorem W2 {id off len : Nat} {cap : Option Nat} {ys : List aA} {h : Hp} {n : Nat} (hh : h id = some (.row (.l ys) 29)) (hl : off + len ≤ ys.length) :
  Wp (nB env [81] (.sl id off len cap 1)) h n fun v' h' n' => n' = n ∧ (∃ zs, h' id = some (.row (.l zs) 29) ∧ zs.length = ys.length ∧ zs.take off = ys.take off) ∧ ∀ j, j ≠ id → h' j = h j := by
 simp only [nB, u81, aI, gV]
 by_cases c : len = 0
 ·subst c
  rw [Nat.beq_refl]
  exact aS.2 ⟨rfl, ⟨ys, hh, rfl, rfl⟩, fun j _ => rfl⟩
 ·have e0 : len.beq 0 = false := jU c
  have hr : (gI [aA.aT] len).length = len := by rw [AA]; simp
  have hb : (off + (gI [aA.aT] len).length).ble ys.length = true := dQ (by rw [hr]; omega)
  have h1 : (gI [aA.aT] len).all bK = true := GX rfl len
  simp only [e0, jJ, aI, bL, aA.cells, dS, bind_assoc, gC, hh, Option.some.injEq, exists_eq_left', cW, fQ, bH.size, hb, h1, true_and, mI, aS]
  rw [kU _ _ _ (by rw [hr]; omega)]
  refine ⟨by simp, ⟨_, bE _ _ _, eA (by rw [hr]; omega), ?_⟩, fun j hj => aP _ _ hj⟩
  unfold bV
  rw [List.take_append_of_le_length (by rw [List.length_take]; omega), List.take_take, Nat.min_self]
theorem KL {ls : List (List UInt8)} (h : kp ls ls.length = List.range ls.length) : pI ls = ls := by
 unfold pI
 rw [h]
 refine List.ext_getElem (by simp) fun i h1 h2 => ?_
 simp [List.getD_eq_getElem?_getD, h2]
def S3 (cap : Option Nat) (i : Nat) : Option Nat := cap.map (· - i)
theorem NA (id i cnt : Nat) (cap : Option Nat) : kS i cnt (aA.sl id 0 cnt cap 1) = .sl id i (cnt - i) (S3 cap i) 1 := by
 cases cap <;> simp [kS, S3]
theorem I9 (Q : dM) (ks : List Kf) (id : Nat) (cap : Option Nat) (cells xs : List aA) (ls : List (List UInt8)) (n0 : Nat) (h : Hp) (n : Nat) (hv : BL h n0 n (.sl id 0 ls.length cap 1) ls) (hc : ls.length ≤ 1000000) (hf : bI h n)
  (c1 : Lst h 29 1 (.sl id 0 ls.length cap 1) ls.length xs) (c2 : Bs h (fun j => n0 ≤ j ∧ j < n ∧ aL (.sl id 0 ls.length cap 1) ≠ some j) xs ls) (c3 : ∀ j, aL (.sl id 0 ls.length cap 1) = some j → n0 ≤ j ∧ j < n)
  (hh : h id = some (.row (.l cells) 29)) (hl : ls.length ≤ cells.length) (hcap' : ∀ k, cap = some k → ls.length ≤ k ∧ k ≤ cells.length) (hx : cells.take ls.length = xs) (hid : n0 ≤ id ∧ id < n) (h2 : 2 ≤ ls.length)
  (hT1 : ∀ (x4 x6 x7 x10 x15 x28 x35 x49 : aA), BL h n0 n (.sl id 0 ls.length cap 1) (pI ls) → dR env 91 none Q ks (.exit 0) (.sl id 0 ls.length cap 1 :: fEq :: aA.aB :: aA.aB :: x4 :: .int .i64 (ls.length : Nat) :: x6 :: x7 :: aA.aB :: aA.aB :: x10 :: aA.aB :: aA.aB :: aA.aB :: aA.aB :: x15 :: aA.aB :: aA.aB :: aA.aB :: aA.aB :: aA.aB :: aA.aB :: aA.aB :: aA.aB :: aA.aB :: aA.aB :: aA.aB :: aA.aB :: x28 :: aA.aB :: aA.aB :: aA.aB :: aA.aB :: aA.aB :: aA.aB :: x35 :: aA.aB :: aA.aB :: aA.aB :: aA.aB :: aA.aB :: aA.aB :: aA.aB :: aA.aB :: aA.aB :: aA.aB :: aA.aB :: aA.aB :: aA.aB :: x49 :: aA.aB :: aA.aB :: aA.aB :: aA.aB :: aA.aB :: aA.aB :: aA.aB :: aA.aB :: aA.aB :: aA.aB :: aA.aB :: aA.aB :: aA.aB :: aA.aB :: aA.aB :: aA.aB :: []) h n)
  (hT2 : ∀ (h' : Hp) (v' : aA) (x5 x6 x7 x10 x15 x28 x35 x49 : aA), BL h' n0 n v' (pI ls) → (∀ j, j ≠ id → h' j = h j) → dR env 91 none Q ks .ret (.sl id 0 ls.length cap 1 :: fEq :: aA.aB :: aA.aB :: v' :: x5 :: x6 :: x7 :: aA.aB :: aA.aB :: x10 :: aA.aB :: aA.aB :: aA.aB :: aA.aB :: x15 :: aA.aB :: aA.aB :: aA.aB :: aA.aB :: aA.aB :: aA.aB :: aA.aB :: aA.aB :: aA.aB :: aA.aB :: aA.aB :: aA.aB :: x28 :: aA.aB :: aA.aB :: aA.aB :: aA.aB :: aA.aB :: aA.aB :: x35 :: aA.aB :: aA.aB :: aA.aB :: aA.aB :: aA.aB :: aA.aB :: aA.aB :: aA.aB :: aA.aB :: aA.aB :: aA.aB :: aA.aB :: aA.aB :: x49 :: aA.aB :: aA.aB :: aA.aB :: aA.aB :: aA.aB :: aA.aB :: aA.aB :: aA.aB :: aA.aB :: aA.aB :: aA.aB :: aA.aB :: aA.aB :: aA.aB :: aA.aB :: aA.aB :: []) h' n) :
  ∀ (m i : Nat) (x4 x6 x7 x10 x15 x28 x35 x49 : aA), i + m = ls.length → 1 ≤ i → kp ls i = List.range i → Run env 91 none Q (.loop CB) ks (.sl id 0 ls.length cap 1 :: fEq :: aA.aB :: aA.aB :: x4 :: .int .i64 (i : Nat) :: x6 :: x7 :: aA.aB :: aA.aB :: x10 :: aA.aB :: aA.aB :: aA.aB :: aA.aB :: x15 :: aA.aB :: aA.aB :: aA.aB :: aA.aB :: aA.aB :: aA.aB :: aA.aB :: aA.aB :: aA.aB :: aA.aB :: aA.aB :: aA.aB :: x28 :: aA.aB :: aA.aB :: aA.aB :: aA.aB :: aA.aB :: aA.aB :: x35 :: aA.aB :: aA.aB :: aA.aB :: aA.aB :: aA.aB :: aA.aB :: aA.aB :: aA.aB :: aA.aB :: aA.aB :: aA.aB :: aA.aB :: aA.aB :: x49 :: aA.aB :: aA.aB :: aA.aB :: aA.aB :: aA.aB :: aA.aB :: aA.aB :: aA.aB :: aA.aB :: aA.aB :: aA.aB :: aA.aB :: aA.aB :: aA.aB :: aA.aB :: aA.aB :: []) h n := by
 have bs : Bs h (fun j => n0 ≤ j ∧ j < n ∧ id ≠ j) xs ls := c2.mono (fun j q => ⟨q.1, q.2.1, fun w => q.2.2 (by rw [w]; rfl)⟩) (fun j q => rfl)
 intro m
 induction m with
 | zero =>
  intro i x4 x6 x7 x10 x15 x28 x35 x49 hm h1 hk
  have : i = ls.length := by omega
  subst this
  have hcc : ¬ (((ls.length : Nat) : Int) < ((ls.length : Nat) : Int)) := by omega
  rw [bP]
  simp only [CB, bC, Try.f91, Option.getD_some, fgr, builtin, bor, List.getD_cons_zero, hv.len u81, hcc, gE]
  exact hT1 _ _ _ _ _ _ _ _ (by rw [KL hk]; exact hv)
 | succ m ih =>
  intro i x4 x6 x7 x10 x15 x28 x35 x49 hm h1 hk
  have hcc : (((i : Nat) : Int) < ((ls.length : Nat) : Int)) := by omega
  have w1 : IntKind.i64.wrap (((i : Nat) : Int) - 1) = ((i - 1 : Nat) : Int) := by rw [w64 (by omega) (by omega)]; omega
  have w2 : IntKind.i64.wrap (((i : Nat) : Int) + 1) = ((i + 1 : Nat) : Int) := by rw [w64 (by omega) (by omega)]; omega
  obtain ⟨x, ex, bx, dx⟩ := bs.at_ i (by omega)
  obtain ⟨y, ey, byt, dy⟩ := bs.at_ (i - 1) (by omega)
  have cx : cells[i * 1]? = some x := by
   rw [Nat.mul_one, ← ex, ← hx, List.getElem?_take, if_pos (by omega)]
  have cy : cells[(i - 1) * 1]? = some y := by
   rw [Nat.mul_one, ← ey, ← hx, List.getElem?_take, if_pos (by omega)]
  have kb : kpB ls i = !(ls[i] == ls[i - 1]) := by
   unfold kpB
   have e1 : (i == 0) = false := by simp; omega
   rw [e1, Bool.false_or, List.getD_eq_getElem?_getD, List.getD_eq_getElem?_getD, List.getElem?_eq_getElem (show i < ls.length by omega), List.getElem?_eq_getElem (show i - 1 < ls.length by omega)]
   rfl
  rw [bP]
  simp only [CB, bC, Try.f91, Option.getD_some, fgr, builtin, bor, List.getD_cons_zero, hv.len u81, hcc, gE]
  refine bY ⟨rfl, ?_⟩
  simp only [Nat.reduceAdd, gE]
  rw [aR (pW (j := i) u81 z29 rfl (by omega))]
  simp only [Nat.reduceAdd, gE]
  rw [aR (pD hh cx jJ rfl)]
  simp only [bor, bR, Nat.reduceAdd, w1, gE]
  rw [aR (pW (j := i - 1) u81 z29 rfl (by omega))]
  simp only [Nat.reduceAdd, gE]
  rw [aR (pD hh cy jJ rfl)]
  simp only [hkr, Nat.reduceAdd, fEq, gE]
  refine cK hf (f89 x y ls[i] ls[i - 1] h n bx byt) fun v6 h6 n6 r6 w6 hn6 f6 ⟨e6, e7, e8⟩ => ?_
  subst e6; subst e7; subst e8
  cases hq : (ls[i] == ls[i - 1]) with
  | false =>
   rw [hq] at kb
   simp only [fgr, bor, bR, Nat.reduceAdd, gE]
   refine ⟨(by (try simp (disch := first | assumption | omega) only [dX, gF]); repeat' (first | rfl | exact (Bool.or_eq_true _ _).mpr (.inr rfl) | refine (Bool.and_eq_true _ _).mpr ⟨?_, ?_⟩)), ?_⟩
   simp only [w2]
   exact ih (i + 1) _ _ _ _ _ _ _ _ (by omega) (by omega) (by rw [IM, kb, hk, List.range_succ]; rfl)
  | true =>
   rw [hq] at kb
   have hk1 : kp ls (i + 1) = kp ls i := by rw [IM, kb]; rfl
   have hlst : Lst h6 29 1 (.sl id 0 ls.length cap 1) ls.length xs := c1
   simp only [fgr, opt, Nat.reduceAdd, gE]
   refine ⟨(by (try simp (disch := first | assumption | omega) only [dX, gF]); repeat' (first | rfl | exact (Bool.or_eq_true _ _).mpr (.inr rfl) | refine (Bool.and_eq_true _ _).mpr ⟨?_, ?_⟩)), ?_⟩
   rw [aF (hlst.rds.qQ (lo := i) u81 z29 rfl (by omega))]
   rw [NA]
   generalize S3 cap i = cS
   simp only [fgr, gE]
   refine I8 _ _ id ls.length i cap cS cells xs ls _ h6 n6 hf hid.2 (fun q => q.2.2 rfl) hl hx rfl bs (by omega) hc (by rw [hk1, hk, List.length_range]) ?_ (ls.length - i - 1) 1 i h6 cells _ _ _ _ _ _ (by omega) (Nat.le_refl _) (by rw [hk1, hk, List.length_range]) hh rfl ?_ (fun j _ => rfl) (fun j _ => rfl)
   rotate_left
   ·rw [hk1, hk, ← hx]
    refine List.ext_getElem (by simp; omega) fun a ha1 ha2 => ?_
    simp only [List.length_map, List.length_range] at ha2
    simp [List.getD_eq_getElem?_getD, List.getElem?_take, show a < ls.length by omega, show a < cells.length by omega]
   intro h7 ys z x4 x10 x15 x28 x35 x49 hh7 hyl htk hold
   have f7 : bI h7 n6 := fun j hj => by rw [hold j (by omega)]; exact hf j hj
   have hkl : (kp ls ls.length).length ≤ ls.length := NH ls _
   obtain ⟨k, hkk⟩ : ∃ k, k = (kp ls ls.length).length := ⟨_, rfl⟩
   rw [← hkk] at hkl htk ⊢
   have hl7 : Lst h7 29 1 (.sl id 0 ls.length cap 1) ls.length (ys.take (ls.length * 1)) := .sl id ls.length cap ys _ hh7 (by omega) (fun k q => by have := hcap' k q; omega) rfl
   simp only [opt, gE]
   rw [aF (hl7.rds.qQ (lo := k) u81 z29 rfl hkl)]
   rw [NA]
   simp only [builtin, gE]
   refine bD f7 (W2 hh7 (by omega)) fun v8 h8 n8 hn8 f8 ⟨e8, ⟨zs, hh8, hzl, hzt⟩, o8⟩ => ?_
   subst e8
   simp only [fgr, opt, gE]
   have hl8 : Lst h8 29 1 (.sl id 0 ls.length cap 1) ls.length (zs.take (ls.length * 1)) := .sl id ls.length cap zs _ hh8 (by omega) (fun k q => by have := hcap' k q; omega) rfl
   rw [aF (hl8.rds.z6 hl8.GU (hi := k) u81 z29 rfl hkl)]
   simp only [fgr, gE]
   have hpre := hl8.pre (hi := k) hkl
   rw [Nat.mul_one, Nat.mul_one, List.take_take, Nat.min_eq_left hkl, hzt, htk] at hpre
   have hcl : (pI ls).length = k := by unfold pI; rw [List.length_map, hkk]
   refine hT2 h8 _ _ _ _ _ _ _ _ _ ⟨_, by rw [hcl]; exact hpre, ?_, fun j q => by rw [BY] at q; exact c3 j q⟩ (fun j q => by rw [o8 j q, hold j q])
   refine ((bs.sel (kp ls ls.length) fun j hj => NG hj).mono (fun j q => ⟨q.1, q.2.1, fun w => q.2.2 (by rw [BY] at w; injection w)⟩) (fun j q => ?_))
   rw [o8 j (Ne.symm q.2.2), hold j (Ne.symm q.2.2)]
theorem f91 (v : aA) (ls : List (List UInt8)) (n0 : Nat) (h : Hp) (n : Nat) (hv : BL h n0 n v ls) (hc : ls.length ≤ 1000000) (hf : bI h n) :
  Wp (bO env (aX env) 91 [v, fEq]) h n fun v' h' n' => n' = n ∧ BL h' n0 n v' (pI ls) ∧ ∀ j, aL v ≠ some j → h' j = h j := by
 have hv0 := hv
 obtain ⟨xs, c1, c2, c3⟩ := hv0
 refine bG af5 YP ?_
 by_cases c : ls.length < 2
 ·have cc : (((ls.length : Nat) : Int) < 2) := by omega
  have e : pI ls = ls := by
   rcases ls with _ | ⟨a, _ | ⟨b, l⟩⟩
   ·rfl
   ·rfl
   ·simp at c; omega
  simp only [MF, Try.f91, Option.getD_some, List.replicate, fgr, builtin, bor, Nat.reduceAdd, Nat.reduceSub, hv.len u81, cc, gE]
  rw [e]
  exact ⟨hv, fun j _ => trivial⟩
 have cc : ¬ (((ls.length : Nat) : Int) < 2) := by omega
 obtain ⟨id, cap, cells, e, hh, hl, hcap, hx⟩ := c1.inv (by omega)
 subst e
 rw [Nat.mul_one] at hl hx
 have hid := c3 id rfl
 have hcap' : ∀ k, cap = some k → ls.length ≤ k ∧ k ≤ cells.length := fun k q => by have := hcap k q; omega
 simp only [MF, Try.f91, Option.getD_some, List.replicate, fgr, builtin, bor, Nat.reduceAdd, Nat.reduceSub, hv.len u81, cc, gE]
 refine I9 _ _ id cap cells xs ls n0 h n hv hc hf c1 c2 c3 hh hl hcap' hx hid (by omega) ?_ ?_ (ls.length - 1) 1 _ _ _ _ _ _ _ _ (by omega) (Nat.le_refl _) rfl
 ·intro x4 x6 x7 x10 x15 x28 x35 x49 hb
  simp only [fgr, gE]
  exact ⟨hb, fun j _ => trivial⟩
 ·intro h' v' x5 x6 x7 x10 x15 x28 x35 x49 hb ho
  simp only [cC, nth, true_and]
  exact ⟨hb, fun j q => ho j fun w => q (by rw [w]; rfl)⟩
theorem W5 {s : aA} (hs : s.cells = [s] ∧ bK s = true ∧ eI s = false) : buildSlice env 81 1 [(0, s)] = (newRow env 29 [s]).bind fun id => M.pure (.sl id 0 1 (some 1) 1) := by
 have e1 : fill (fun k => some (k * 1, 1)) (gI zX.i.zero.cells 1) [(0, s)] = some [s] := by
  have : gI zX.i.zero.cells 1 = [] ++ [aA.aT] ++ [] := rfl
  rw [this, oZ (off := 0) (sz := 1) rfl rfl rfl (by rw [hs.1]; rfl) hs.2.2, hs.1]
  rfl
 have e2 : buildSlice env 81 1 [(0, s)] = (eE "buildSlice" (fill (fun k => some (k * 1, 1)) (gI zX.i.zero.cells 1) [(0, s)])).bind fun cs => (newRow env 29 cs).bind fun id => M.pure (.sl id 0 1 (some 1) 1) := rfl
 rw [e2, e1]
 rfl
def scr (z : Int) (vs : List Ver) : List (List UInt8) := (vs.filter fun v => dC v z).map Ver.aE
theorem TN {vs : List Ver} {i : Nat} (hi : i < vs.length) (z : Int) : scr z (vs.take (i + 1)) = if dC vs[i] z then scr z (vs.take i) ++ [vs[i].aE] else scr z (vs.take i) := by
 unfold scr
 rw [hG hi, List.filter_append]
 by_cases c : dC vs[i] z = true
 ·rw [if_pos c]; simp [c]
 ·rw [if_neg c]; simp [c]
theorem GO (z : Int) (vs : List Ver) : (scr z vs).length ≤ vs.length := by
 unfold scr
 rw [List.length_map]
 exact List.length_filter_le _ _
theorem PS (Q : dM) (ks : List Kf) (v : aA) (z : Int) (cnt : Nat) (xs : List aA) (vs : List Ver) (D : Nat → Prop) (h0 : Hp) (n0 : Nat) (hc : cnt ≤ 1000000) (hv : Rds h0 1 v cnt xs) (hvn : ∀ j, aL v = some j → j < n0) (hp : Ps h0 D xs vs) (hD : ∀ j, D j → j < n0) (hsl : ∀ v ∈ vs, v.aE.length ≤ 1000000)
  (hT : ∀ (h : Hp) (n : Nat) (acc : aA) (x0 x4 x7 x9 x18 x25 : aA), BL h n0 n acc (scr z vs) → n0 ≤ n → bI h n → Old h0 h n0 →
   dR env 44 none Q ks (.exit 0) (x0 :: .int .i64 z :: aA.aB :: aA.aB :: x4 :: acc :: aA.aB :: x7 :: aA.aB :: x9 :: aA.aB :: aA.aB :: aA.aB :: aA.aB :: aA.aB :: v :: .int .i64 (cnt : Nat) :: .int .i64 (cnt : Nat) :: x18 :: aA.aB :: aA.aB :: aA.aB :: aA.aB :: aA.aB :: aA.aB :: x25 :: aA.aB :: aA.aB :: aA.aB :: aA.aB :: aA.aB :: aA.aB :: aA.aB :: aA.aB :: aA.aB :: aA.aB :: aA.aB :: []) h n) :
  ∀ (m i : Nat) (h : Hp) (n : Nat) (acc : aA) (x0 x4 x7 x9 x18 x25 : aA), i + m = cnt → BL h n0 n acc (scr z (vs.take i)) → n0 ≤ n → bI h n → Old h0 h n0 →
   Run env 44 none Q (.loop CP) ks (x0 :: .int .i64 z :: aA.aB :: aA.aB :: x4 :: acc :: aA.aB :: x7 :: aA.aB :: x9 :: aA.aB :: aA.aB :: aA.aB :: aA.aB :: aA.aB :: v :: .int .i64 (cnt : Nat) :: .int .i64 (i : Nat) :: x18 :: aA.aB :: aA.aB :: aA.aB :: aA.aB :: aA.aB :: aA.aB :: x25 :: aA.aB :: aA.aB :: aA.aB :: aA.aB :: aA.aB :: aA.aB :: aA.aB :: aA.aB :: aA.aB :: aA.aB :: aA.aB :: []) h n := by
 have hcl : cnt = vs.length := by have := hv.length; have := hp.len; omega
 intro m
 induction m with
 | zero =>
  intro i h n acc x0 x4 x7 x9 x18 x25 hm ha hn hf ho
  have : i = cnt := by omega
  subst this
  rw [bP]
  have hcc : ¬ (((i : Nat) : Int) < ((i : Nat) : Int)) := by omega
  simp only [CP, bC, Try.f44, Option.getD_some, fgr, bor, List.getD_cons_zero, hcc, gE]
  rw [hcl, List.take_length] at ha
  exact hT h n acc _ _ _ _ _ _ ha hn hf ho
 | succ m ih =>
  intro i h n acc x0 x4 x7 x9 x18 x25 hm ha hn hf ho
  rw [bP]
  have hil : i < cnt := by omega
  have hcc : (((i : Nat) : Int) < ((cnt : Nat) : Int)) := by omega
  have hv' := hv.aO (h' := h) (fun j hj => ho j (hvn j hj))
  have hp' := hp.mono (D' := D) (fun _ q => q) (fun j hj => ho j (hD j hj))
  obtain ⟨id, sv, hx, a, d1, d2⟩ := hp'.get (j := i) (by omega)
  have hidx := hv'.idx (E := env) u95 nJ (kk := .i64) (z := ((i : Nat) : Int)) (j := i) rfl hil (h' := h) (n' := n)
  have hld := hv'.load (E := env) iI rfl (k := i * 1) (n := n) (by rw [Nat.mul_one]; exact hx)
  have w1 : IntKind.i64.wrap (((i : Nat) : Int) + 1) = ((i + 1 : Nat) : Int) := by rw [w64 (by omega) (by omega)]; omega
  have hss := TN (vs := vs) (i := i) (by omega) z
  have hwv := hsl _ (List.getElem_mem (show i < vs.length by omega))
  generalize vs[i]'(by omega) = w at *
  have atn : AtN h n id sv w := ⟨a, by have := hD _ d1; omega, fun q hq => by have := hD _ (d2 q hq); omega⟩
  simp only [CP, bC, Try.f44, Option.getD_some, fgr, bor, List.getD_cons_zero, hcc, gE]
  rw [aF hidx]
  simp only [gE]
  rw [aF hld]
  simp only [fgr, gE]
  rw [aF (dY a.row a.ok)]
  simp only [hkr, gE]
  refine bD hf (f82 w sv a.ok z h n hf) fun v1 h1 n1 hn1 f1 ⟨e1, o1⟩ => ?_
  subst e1
  have ho1 : Old h0 h1 n0 := fun q hq => (o1 q (by omega)).trans (ho q hq)
  have ha1 := ha.old (Nat.le_refl _) o1
  have at1 := atn.old hn1 o1
  cases hq : dC w z with
  | false =>
   rw [hq] at hss
   simp only [fgr, bor, bR, w1, gE]
   obtain ⟨cells, c1, c2, c3⟩ := ha1
   exact ih (i + 1) h1 n1 acc _ _ _ _ _ _ (by omega) ⟨cells, by rw [hss]; exact c1, by rw [hss]; exact c2.mono (fun j q => ⟨q.1, by omega, q.2.2⟩) (fun j q => rfl), fun j q => by have := c3 j q; omega⟩ (by omega) f1 ho1
  | true =>
   rw [hq] at hss
   obtain ⟨cells, c1, c2, c3⟩ := ha1
   simp only [tyr, fgr, aM, gE]
   rw [aF (eZ at1.row at1.ok)]
   simp only [hkr, gE]
   refine bD f1 (f90 sv w.aE h1 n1 at1.s hwv f1) fun v2 h2 n2 hn2 f2 ⟨b2, i2, o2⟩ => ?_
   have c1' := c1.aO (h' := h2) fun j q => o2 j (by have := c3 j q; omega)
   simp only [W5 b2.kind, gE]
   refine i6 jJ f2 (f := fun id => aA.sl id 0 1 (some 1) 1) fun H3 r3 o3 f3 => ?_
   have c1'' := c1'.aO (h' := H3) fun j q => o3 j (by have := c3 j q; omega)
   have hlen : (scr z (vs.take i)).length ≤ 1000000 := by
    have h1 := GO z (vs.take i)
    have h2 : (vs.take i).length ≤ vs.length := by rw [List.length_take]; omega
    omega
   have k2 := b2.kind
   simp only [builtin, gE]
   refine fV (i := zX.i) (e := 29) c1'' (mL (cnt := 1) r3 rfl) u81 u81 jJ (by simp [k2.2.1]) (by decide) (by show 2 * (_ + 1) * 24 ≤ _; omega) (by omega) f3 ?_
   intro acc' h4 n4 hn4 f4 l4 i4 o4
   simp only [fgr, bor, bR, w1, gE]
   have an2 : ∀ j, n1 ≤ j → aL acc ≠ some j := fun j hj q => by have := c3 j q; omega
   have i4' : ∀ j, aL acc' = some j → n0 ≤ j := fun j q => by
    rcases i4 with w | ⟨w, _⟩
    ·rw [w] at q; exact (c3 j q).1
    ·rw [w] at q; injection q with q; omega
   have hne : ∀ j, j < n2 + 1 → aL acc ≠ some j → aL acc' ≠ some j := fun j hj hn q => by
    rcases i4 with w | ⟨w, _⟩
    ·rw [w] at q; exact hn q
    ·rw [w] at q; injection q with q; omega
   have kp1 : ∀ j, j < n1 → aL acc ≠ some j → h4 j = h1 j := fun j hj hn => by rw [o4 j (by omega) hn, o3 j (by omega), o2 j hj]
   have bs4 := (c2.mono (h' := h4) (D' := fun j => n0 ≤ j ∧ j < n4 ∧ aL acc' ≠ some j) (fun j q => ⟨q.1, by omega, hne j (by omega) q.2.2⟩) (fun j q => kp1 j (by omega) q.2.2)).wI (b2.aO (h' := h4) fun j q => by rw [o4 j (by have := i2 j q; omega) (an2 j (i2 j q).1), o3 j (by have := i2 j q; omega)]) (fun j q => ⟨by have := i2 j q; omega, by have := i2 j q; omega, hne j (by have := i2 j q; omega) (an2 j (i2 j q).1)⟩)
   refine ih (i + 1) h4 n4 acc' _ _ _ _ _ _ (by omega) ⟨_, by rw [hss, if_pos rfl, List.length_append]; exact l4, by rw [hss, if_pos rfl]; exact bs4, fun j q => ⟨i4' j q, l4.dJ f4 q⟩⟩ (by omega) f4 fun j hj => ?_
   rw [kp1 j (by omega) (fun q => by have := c3 j q; omega)]
   exact ho1 j hj
theorem f44 (x : Nat) (z : Int) (L : List Ver) (D M : Nat → Prop) (h : Hp) (n : Nat) (hs : Ix h n D M x L) (hc : L.length ≤ 1000000) (hf : bI h n) :
  Wp (bO env (aX env) 44 [.ptr x 0, .int .i64 z]) h n fun v' h' n' => ∃ S, dW true S ∧ L.Perm S ∧ BL h' n n' v' (pI (scr z S)) ∧ Old h h' n := by
 obtain ⟨⟨S, s0, rS, perm⟩, rL, ok⟩ := hs
 obtain ⟨vl, vs, xl, xs, iv, mx, ml, ms, mn⟩ := s0
 have hSl : S.length = L.length := perm.length_eq.symm
 refine bG ai7 ZL ?_
 simp only [RA, Try.f44, Option.getD_some, List.replicate, fgr, hkr, Nat.reduceAdd, Nat.reduceSub, gE]
 refine eU (f73 x _ true h n iv.row rfl) ?_
 simp only [tyr, fgr, aM, gE]
 rw [aF (iv.row.one (off := 3) rfl mK rfl)]
 simp only [fgr, builtin, iv.s.rds.cP u95, gE]
 refine PS _ _ vs z S.length xs S D h n (by omega) iv.s.rds (fun j q => (mn j (ms j q)).1) iv.sp iv.dn (fun v hv => (ok v (perm.mem_iff.2 hv)).2) ?_ S.length 0 h n .aT _ _ _ _ _ _ (by omega) ⟨[], .nil, Bs.nil _ _, fun j q => by cases q⟩ (Nat.le_refl _) hf (Old.refl _ _)
 intro h1 n1 acc x0 x4 x7 x9 x18 x25 hb hn hf1 ho
 simp only [hkr, gE]
 have hle := GO z S
 refine bD hf1 (f91 acc (scr z S) n h1 n1 hb (by omega) hf1) fun v2 h2 n2 hn2 f2 ⟨e2, b2, o2⟩ => ?_
 subst e2
 simp only [fgr, gE]
 refine ⟨S, rS, perm, b2, fun j hj => ?_⟩
 obtain ⟨_, _, _, c3⟩ := hb
 rw [o2 j (fun q => by have := c3 j q; omega), ho j hj]
theorem E1 : ∀ a b : List UInt8, Op.bytesLess a b = decide (Lib.compareBytes a b < 0)
 | [], [] => rfl
 | [], _ :: _ => rfl
 | _ :: _, [] => rfl
 | a :: x, b :: y => by
  unfold Op.bytesLess Lib.compareBytes
  rw [E1 x y]
  by_cases c : a < b
  ·simp [c]
  ·by_cases d : b < a
   ·have : ¬ a = b := fun e => by subst e; exact c d
    simp [c, d, this]
   ·have : a = b := by
     simp only [UInt8.lt_iff_toNat_lt] at c d
     exact UInt8.toNat_inj.1 (by omega)
    subst this
    simp [c]
theorem P0 {S : List Ver} (r : dW true S) (z : Int) : Up (scr z S) := by
 unfold Up scr
 rw [List.pairwise_map]
 refine (List.Pairwise.filter _ r).imp fun {a b} h => ?_
 exact yL (show orI (Lib.compareBytes a.aE b.aE) (cV a b) < 0 from h)
theorem LB {S : List Ver} {z : Int} {s : List UInt8} : s ∈ scr z S ↔ ∃ v ∈ S, dC v z = true ∧ v.aE = s := by
 unfold scr
 simp only [List.mem_map, List.mem_filter]
 constructor
 ·rintro ⟨v, ⟨a, b⟩, c⟩; exact ⟨v, a, b, c⟩
 ·rintro ⟨v, a, b, c⟩; exact ⟨v, ⟨a, b⟩, c⟩
noncomputable def L49 (tm : List aA) : lU := { state := .ready, pending := none, fn := 49, tmps := tm, params := [10], assign := HB, body := H8 }
def m0 (L : List Ver) (p k : Nat) : List Ver := (L.take k).drop p
theorem HL (L : List Ver) (p : Nat) : m0 L p p = [] := by
 unfold m0
 exact List.drop_eq_nil_of_le (by rw [List.length_take]; omega)
theorem HJ {L : List Ver} {p k : Nat} (hp : p ≤ k) (hk : k < L.length) : m0 L p (k + 1) = m0 L p k ++ [L[k]] := by
 unfold m0
 rw [hG hk, List.drop_append_of_le_length (by rw [List.length_take]; omega)]
theorem LK (L : List Ver) (p k : Nat) : (m0 L p k).length ≤ L.length := by
 unfold m0
 rw [List.length_drop, List.length_take]; omega
structure P49 (H7 : Hp) (n : Nat) (L : List Ver) (aG : List UInt8) (pn : Int) (lo : lU) (nS k : Nat) (h1 : Hp) (n1 : Nat) : Prop where
 fr : bI h1 n1
 n7 : n + 1 + 1 + 1 + 1 + 1 ≤ nS
 ns : nS ≤ n1
 kp : ∀ j, j < n + 1 + 1 + 1 + 1 + 1 → j ≠ n + 1 → j ≠ n + 1 + 1 + 1 + 1 → h1 j = H7 j
 lp : h1 (n + 1 + 1 + 1 + 1) = some (.loop lo)
 cl : ∃ acc cells, h1 (n + 1) = some (.row (.l [acc]) 43) ∧ Lst h1 31 70 acc (m0 L (pos false L (key aG pn 0)) k).length cells ∧ Vm h1 (fun j => nS ≤ j ∧ j < n1 ∧ aL acc ≠ some j) cells (m0 L (pos false L (key aG pn 0)) k) ∧ ∀ j, aL acc = some j → nS ≤ j
 sm : ∀ i (hi : i < L.length), pos false L (key aG pn 0) ≤ i → i < k → same aG pn L[i] = true
set_option maxHeartbeats 4000000 in
theorem f49 (x : Nat) (aG : List UInt8) (pn : Int) (hl : aG.length = 32) (L : List Ver) (D M : Nat → Prop) (h : Hp) (n : Nat) (hs : Ix h n D M x L) (hc : L.length ≤ 1000000) (hf : bI h n) :
  Wp (bO env (aX env) 49 [.ptr x 0, .agg (aQ aG pn)]) h n fun v' h' n' => Old h h' n ∧ ∃ k, pos false L (key aG pn 0) ≤ k ∧ (∀ i (hi : i < L.length), pos false L (key aG pn 0) ≤ i → i < k → same aG pn L[i] = true) ∧ (∀ hk : k < L.length, same aG pn L[k] = false) ∧ VL h' n n' v' (m0 L (pos false L (key aG pn 0)) k) := by
 obtain ⟨⟨S, s0, rS, perm⟩, rL, ok⟩ := hs
 obtain ⟨vl, vs, xl, xs, iv, mx, ml, ms, mn⟩ := s0
 refine bG ai2 ZG ?_
 simp only [R5, Try.f49, Option.getD_some, List.replicate, Nat.reduceAdd, Nat.reduceSub, gE]
 refine cL (v := .agg (aQ aG pn)) gQ rfl hf fun H1 r1 o1 f1 => ?_
 replace r1 : Row H1 n (aQ aG pn) := r1
 simp only [fgr, gE]
 rw [fI fZ rfl]
 obtain ⟨H2, hH2⟩ : ∃ H2, H2 = upd H1 (n + 1) (some (Blk.row (bH.l [aA.aT]) 43)) := ⟨_, rfl⟩
 show Ops env 49 none _ _ _ _ _ (upd H1 (n + 1) (some (Blk.row (bH.l [aA.aT]) 43))) _
 rw [← hH2]
 have f2 : bI H2 (n + 1 + 1) := by rw [hH2]; exact f1.new
 have o2 : ∀ j, j ≠ n + 1 → H2 j = H1 j := fun j hj => by rw [hH2, aP _ _ hj]
 have r2 : H2 (n + 1) = some (Blk.row (bH.l [aA.aT]) 43) := by rw [hH2, bE]
 clear hH2
 have r1' : Row H2 n (aQ aG pn) := r1.aO (o2 n (by omega))
 simp only [fgr, gE]
 rw [aF (show Rd (load env 28 (.ptr n 0)) _ _ [n] (.agg (aQ aG pn)) from Row.j9 r1' gQ rfl (c9 hl))]
 simp only [hkr, gE]
 refine eU (f81 x aG pn _ _) ?_
 simp only [cC, fgr, cE, put, aN]
 refine oT (g := 106) (first := []) (cap := [.ptr (n + 1 + 1) 0, .ptr (n + 1 + 1 + 1) 0]) rfl rfl ?_
 let TM : List aA := (.ptr x 0 :: .agg (aQ aG pn) :: aA.aB :: .ptr n 0 :: .aT :: .ptr (n + 1) 0 :: undef :: aA.aB :: aA.aB :: .fn (.func 106) [] [.ptr (n + 1 + 1) 0, .ptr (n + 1 + 1 + 1) 0] :: undef :: aA.aB :: aA.aB :: aA.aB :: aA.aB :: aA.aB :: aA.aB :: aA.aB :: aA.aB :: [])
 obtain ⟨H6, hH6⟩ : ∃ H6, H6 = upd (upd (upd H2 (n + 1 + 1) (some (Blk.row (bH.l [aA.ptr x 0]) 56))) (n + 1 + 1 + 1) (some (Blk.row (bH.l (aQ aG pn)) 28))) (n + 1 + 1 + 1 + 1) (some (Blk.loop (L49 TM))) := ⟨_, rfl⟩
 show Wp (iC env (aX env) 106 [aA.fn (Fn.yield (n + 1 + 1 + 1 + 1)) [] [], aA.ptr (n + 1 + 1) 0, aA.ptr (n + 1 + 1 + 1) 0]) (upd (upd (upd H2 (n + 1 + 1) (some (Blk.row (bH.l [aA.ptr x 0]) 56))) (n + 1 + 1 + 1) (some (Blk.row (bH.l (aQ aG pn)) 28))) (n + 1 + 1 + 1 + 1) (some (Blk.loop (L49 TM)))) _ _
 rw [NJ, ← hH6]
 have f6 : bI H6 (n + 1 + 1 + 1 + 1 + 1) := by rw [hH6]; exact f2.new.new.new
 have old6 : Old h H6 n := fun j hj => by rw [hH6, aP _ _ (by omega), aP _ _ (by omega), aP _ _ (by omega), o2 j (by omega), o1 j (by omega)]
 have g3 : H6 (n + 1) = some (Blk.row (bH.l [aA.aT]) 43) := by rw [hH6, aP _ _ (by omega), aP _ _ (by omega), aP _ _ (by omega)]; exact r2
 have g4 : Row H6 (n + 1 + 1) [.ptr x 0] := by rw [hH6]; exact ((Row.new _ _ _ _).upd (by omega)).upd (by omega)
 have g5 : Row H6 (n + 1 + 1 + 1) (aQ aG pn) := by rw [hH6]; exact (Row.new _ _ _ _).upd (by omega)
 have g6 : H6 (n + 1 + 1 + 1 + 1) = some (.loop (L49 TM)) := by rw [hH6, bE]
 clear hH6
 have iv6 : IxV H6 (n + 1 + 1 + 1 + 1 + 1) D x vl vs xl xs L S :=
  ⟨iv.row.aO (old6 x iv.xn), iv.l.aO (fun j q => old6 j (mn j (ml j q)).1), iv.lp.mono (fun j q => q) (fun j q => old6 j (iv.dn j q)), iv.s.aO (fun j q => old6 j (mn j (ms j q)).1), iv.sp.mono (fun j q => q) (fun j q => old6 j (iv.dn j q)), by have := iv.xn; omega, fun j q => by have := iv.dn j q; omega, iv.xd, iv.vlx, iv.vsx⟩
 have lt : ∀ (j : Nat), j < n → ∀ (h1 : Hp), (∀ j, j < n + 1 + 1 + 1 + 1 + 1 → j ≠ n + 1 → j ≠ n + 1 + 1 + 1 + 1 → h1 j = H6 j) → h1 j = H6 j := fun j hj h1 hk => hk j (by omega) (by omega) (by omega)
 refine cG ((f106 (.fn (.yield (n + 1 + 1 + 1 + 1)) [] []) (n + 1 + 1) (n + 1 + 1 + 1) x aG pn hl L S D (P49 H6 n L aG pn (L49 TM)) (fun _ _ _ => False) vl vs xl xs H6 (n + 1 + 1 + 1 + 1 + 1) iv6 (fun j q => by have := (mn j (ml j q)).1; omega) rL hc ⟨rfl, rfl, rfl⟩ g4 g5 (by omega) (by omega) f6 ?_ ?_ ?_ (fun _ _ _ _ _ _ _ q => q) ?_).zA f6) ?_
 ·intro nS k h1 n1 p
  exact ⟨iv6.l.rds.aO (fun j q => lt j (mn j (ml j q)).1 h1 p.kp), iv6.lp.mono (fun j q => q) (fun j q => lt j (iv.dn j q) h1 p.kp), p.fr⟩
 ·intro h' nS hn' hf' ho'
  exact ⟨hf', by omega, Nat.le_refl _, fun j hj _ _ => ho' j hj, (ho' _ (by omega)).trans g6, ⟨.aT, [], (ho' _ (by omega)).trans g3, by rw [HL]; exact .nil, by rw [HL]; exact Vm.nil _ _, fun j q => by cases q⟩, fun i hi h1 h2 => by omega⟩
 ·intro nS k h1 n1 i b hi hns p
  obtain ⟨acc, cells, c1, c2, c3, c4⟩ := p.cl
  have hn7 := p.n7
  exact ⟨p.fr.upd (by have := p.ns; omega), p.n7, p.ns, fun j hj h1' h2' => by rw [aP _ _ (by omega)]; exact p.kp j hj h1' h2', by rw [aP _ _ (by omega)]; exact p.lp, ⟨acc, cells, by rw [aP _ _ (by omega)]; exact c1, c2.aO fun j q => aP _ _ (by have := c4 j q; omega), c3.mono (fun j q => q) (fun j q => aP _ _ (by omega)), c4⟩, p.sm⟩
 ·intro nS k hk id sv h1 n1 hnS hpk p a d1 d2 hsm
  have hidn := iv.dn id d1
  refine qO p.lp rfl rfl ?_
  simp only [HB, List.getD_cons_zero, mM, List.zip_cons_cons, List.zip_nil_left, L49, TM, dP, Try.f49, Option.getD_some, fgr, gE]
  refine ⟨_, p.lp, rfl, ?_⟩
  obtain ⟨h2, hh2⟩ : ∃ h2, h2 = upd h1 (n + 1 + 1 + 1 + 1) (some (Blk.loop { L49 TM with state := .busy })) := ⟨_, rfl⟩
  have ho2 : ∀ j, j ≠ n + 1 + 1 + 1 + 1 → h2 j = h1 j := fun j hj => by rw [hh2, aP _ _ hj]
  have hlo2 : h2 (n + 1 + 1 + 1 + 1) = some (.loop { L49 TM with state := .busy }) := by rw [hh2, bE]
  have hns := p.ns
  have h77 := p.n7
  have hf2 : bI h2 n1 := by rw [hh2]; exact p.fr.upd (by omega)
  show Run env 49 _ _ _ _ _ (upd h1 (n + 1 + 1 + 1 + 1) (some (Blk.loop { L49 TM with state := .busy }))) n1
  rw [← hh2]
  clear hh2
  have a2 : At h2 id sv L[k] := a.aO (ho2 id (by omega)) (fun j q => ho2 j (by have := iv.dn j (d2 j q); omega))
  obtain ⟨acc, cells, q1, q2, q3, q4⟩ := p.cl
  have sm' : ∀ i (hi : i < L.length), pos false L (key aG pn 0) ≤ i → i < k + 1 → same aG pn L[i] = true := fun i hi h1' h2' => by
   by_cases q : i = k
   ·subst q; exact hsm
   ·exact p.sm i hi h1' (by omega)
  have cell : Row h2 (n + 1) [acc] := ⟨_, (ho2 _ (by omega)).trans q1⟩
  have q2' := q2.aO (h' := h2) fun j q => ho2 j (by have := q4 j q; omega)
  simp only [H8, List.getD_cons_zero, dP, Try.f49, Option.getD_some, cC, fgr, List.nil_append, List.append_nil]
  refine bY ⟨rfl, ?_⟩
  simp only [gE]
  rw [aR (cell.one (off := 0) rfl fZ rfl)]
  simp only [Nat.reduceAdd, gE]
  rw [aR (dY a2.row a2.ok)]
  simp only [hkr, Nat.reduceAdd, gE]
  have fo2 : bI (only (fun j => decide (aL sv = some j)) h2) n1 := hf2.only
  refine jE (fun j => decide (aL sv = some j)) hf2 (JE L[k] sv a2.ok (only (fun j => decide (aL sv = some j)) h2) n1 (a2.s.aO fun j q => fN (decide_eq_true q)) (fun j q => by have := iv.dn j (d2 j q); omega) (ok _ (List.getElem_mem hk)).2 fo2) fun v9 h9 n9 r9 w9 hr9 hn9 f9 ⟨s', e9, b9, i9, o9, m9⟩ hin hout hr hw => ?_
  subst e9
  have old9 : Old h2 h9 n1 := fun j hj => by
   by_cases q : aL sv = some j
   ·rw [hin j (.inl (decide_eq_true q)), o9 j hj, fN (decide_eq_true q)]
   ·exact hout j hj (decide_eq_false q)
  have b9' : Bytes h9 s' L[k].aE := b9.aO (fun j q => hin j (.inr (i9 j q).1))
  simp only [Nat.reduceAdd, sO (aW a2.ok.h a2.ok.b), gE]
  refine lE dZ f9 fun H10 r10 o10 f10 => ?_
  simp only [builtin, Nat.reduceAdd, gE]
  have old10 : Old h2 H10 n1 := fun j hj => by rw [o10 j (by omega), old9 j hj]
  have accl : ∀ j, aL acc = some j → j < n1 := fun j q => q2.dJ p.fr q
  have q2'' := q2'.aO (h' := H10) fun j q => old10 j (accl j q)
  have tl := LK L (pos false L (key aG pn 0)) k
  refine cK f10 (lV (i := fA.i) (e := 31) (Q1 := fun v' h' n' => n9 + 1 ≤ n' ∧ bI h' n' ∧ Lst h' 31 70 v' ((m0 L (pos false L (key aG pn 0)) k).length + 1) (cells ++ aH L[k] s') ∧ (aL v' = aL acc ∨ aL v' = some (n9 + 1) ∧ n9 + 1 < n') ∧ ∀ j, j < n9 + 1 → aL acc ≠ some j → h' j = H10 j) q2'' (mL (cnt := 1) r10 (by rw [aW a2.ok.h a2.ok.b]; rfl)) u43 u43 dZ (dH b9.kind.2.1) (by decide) (by show 2 * (_ + 1) * 128 ≤ _; omega) (by omega) f10 (fun v' h' n' a b c d e => ⟨a, b, c, d, e⟩)) fun v11 h11 n11 r11 w11 hn11 f11 ⟨_, _, l11, i11, o11⟩ => ?_
  have o111 : ∀ j, j < n1 → aL acc ≠ some j → j ≠ n + 1 + 1 + 1 + 1 → h11 j = h1 j := fun j a b c => by rw [o11 j (by omega) b, old10 j a, ho2 j c]
  have accne : ∀ j, j < nS → aL acc ≠ some j := fun j hj q => by have := q4 j q; omega
  have c11 : h11 (n + 1) = some (Blk.row (bH.l [acc]) 43) := (o111 _ (by omega) (accne _ (by omega)) (by omega)).trans q1
  have l11n : ∀ j, j < n9 + 1 → aL acc ≠ some j → aL v11 ≠ some j := fun j hj hn q => by
   rcases i11 with w | ⟨w, _⟩
   ·rw [w] at q; exact hn q
   ·rw [w] at q; injection q with q; omega
  have nw : n + 1 ∉ w9 := fun q => by have := iv.dn _ (d2 _ (of_decide_eq_true (hw _ q))); omega
  have nr : n + 1 ∉ r9 := fun q => by have := iv.dn _ (d2 _ (of_decide_eq_true (hr _ q))); omega
  have v11k := l11.rds.kind
  have v11n : ∀ j, aL v11 = some j → nS ≤ j := fun j q => by
   rcases i11 with w | ⟨w, _⟩
   ·rw [w] at q; exact q4 j q
   ·rw [w] at q; injection q with q; omega
  simp only [Nat.reduceAdd, gE]
  refine mS (Row.fH (v := v11) c11 fZ (by rw [v11k.1]; rfl) (by show 0 + 1 ≤ 1; omega) (by rw [v11k.1]; simp [v11k.2.1])) ?_
  rw [v11k.1, show bV [acc] 0 [v11] = [v11] from rfl]
  simp only [j5, cC, fgr, cE, aN, Nat.reduceAdd]
  have hlo11 : upd h11 (n + 1) (some (Blk.row (bH.l [v11]) 43)) (n + 1 + 1 + 1 + 1) = some (.loop { L49 TM with state := .busy }) := by
   rw [aP _ _ (by omega), o11 _ (by omega) (accne _ (by omega)), old10 _ (by omega)]
   exact hlo2
  refine ⟨(by (try simp (disch := first | assumption | omega) only [dX, gF]); repeat' (first | rfl | exact (Bool.or_eq_true _ _).mpr (.inr rfl) | refine (Bool.and_eq_true _ _).mpr ⟨?_, ?_⟩)), _, hlo11, .inl ⟨.inl rfl, ⟨(f11.upd (by omega)).upd (by omega), h77, by omega, fun j hj h1' h2' => ?_, bE _ _ _, ⟨v11, cells ++ aH L[k] s', by rw [aP _ _ (by omega), bE], ?_, ?_, v11n⟩, sm'⟩⟩, fun j hj hjn => ?_, ?_⟩
  ·rw [aP _ _ h2', aP _ _ h1', o111 j (by omega) (accne j (by omega)) h2']; exact p.kp j hj h1' h2'
  ·rw [HJ hpk hk, List.length_append]
   exact l11.aO (fun j q => by rw [aP _ _ (by have := v11n j q; omega), aP _ _ (by have := v11n j q; omega)])
  ·rw [HJ hpk hk]
   have ne2 : ∀ j, nS ≤ j → ∀ (H : Hp) b b2, upd (upd H (n + 1) b) (n + 1 + 1 + 1 + 1) b2 j = H j := fun j hj H b b2 => by rw [aP _ _ (by omega), aP _ _ (by omega)]
   refine (q3.mono (fun j q => ⟨q.1, by omega, l11n j (by omega) q.2.2⟩) (fun j q => by rw [ne2 j q.1, o111 j q.2.1 q.2.2 (by omega)])).wI (b9'.aO fun j q => ?_) a2.ok (fun j q => ⟨by have := i9 j q; omega, by have := i9 j q; omega, l11n j (by have := i9 j q; omega) (fun w => by have := accl j w; have := i9 j q; omega)⟩) m9
   rw [ne2 j (by have := i9 j q; omega), o11 j (by have := i9 j q; omega) (fun w => by have := accl j w; have := i9 j q; omega), o10 j (by have := i9 j q; omega)]
  ·rw [aP _ _ (by omega), aP _ _ (by omega), o111 j (by omega) (accne j hjn) (by omega)]
  ·rw [aP _ _ (by omega), aP _ _ (by omega), o111 _ (by omega) (accne _ (by omega)) (by omega)]
 ·rintro v5 h5 n5 ⟨⟨e5, nS, hnS, hh⟩, hn5, f5⟩
  rcases hh with ⟨k, hk1, p, hk3⟩ | hr
  ·refine ⟨_, p.lp, (fun q => by cases q), .normal, rfl, ?_⟩
   obtain ⟨acc, cells, c1, c2, c3, c4⟩ := p.cl
   have hns := p.ns
   have h7 := p.n7
   simp only [gE]
   have hrow : Row (upd h5 (n + 1 + 1 + 1 + 1) (some (.loop { L49 TM with state := .exhausted }))) (n + 1) [acc] := ⟨_, (aP _ _ (by omega)).trans c1⟩
   rw [aF (hrow.one (off := 0) rfl fZ rfl)]
   simp only [fgr, gE]
   refine ⟨fun j hj => ?_, k, hk1, p.sm, hk3, cells, c2.aO (fun j q => aP _ _ (by have := c4 j q; omega)), c3.mono (fun j q => ⟨by omega, q.2.1, q.2.2⟩) (fun j q => aP _ _ (by omega)), fun j q => ⟨by have := c4 j q; omega, c2.dJ p.fr q⟩⟩
   rw [aP _ _ (by omega), lt j hj h5 p.kp, old6 j hj]
  ·exact hr.elim
def sK (L : List Ver) (aG : List UInt8) (pn : Int) : List Ver := L.filter (same aG pn)
theorem ak4 {K : Nat → Prop} {x : Nat} (aG : List UInt8) (pn : Int) (hl : aG.length = 32) {L : List Ver} {h : Hp} {n : Nat} (hs : Ixk K h n x L) (hc : L.length ≤ 900000) (hf : bI h n) :
  Wp (bO env (aX env) 49 [.ptr x 0, .agg (aQ aG pn)]) h n fun v' h' n' => VL h' n n' v' (sK L aG pn) ∧ Old h h' n := by
 have rL := hs.rL
 obtain ⟨⟨D, M, i, q⟩, g⟩ := hs
 refine cG (f49 x aG pn hl L D M h n i (by omega) hf) fun v' h' n' ⟨o, k, hk, sm, ne, v⟩ => ⟨?_, o⟩
 have e := KI rL g hk sm ne (fun _ => true)
 rw [List.filter_eq_self.2 fun _ _ => rfl] at e
 have e2 : m0 L (pos false L (key aG pn 0)) k = sK L aG pn := by
  unfold m0 sK
  rw [e]
  congr 1
  funext v
  rw [Bool.and_true]
 rwa [e2] at v
structure Ixw (K T : Nat → Prop) (h : Hp) (n x : Nat) (L : List Ver) : Prop where
 ix : ∃ D M, Ix h n D M x L ∧ (∀ j, K j → j < n ∧ ¬ M j) ∧ ∀ j, T j → j < n ∧ ¬ D j
 g : ∀ v ∈ L, wT v
variable {K T : Nat → Prop} {h h' : Hp} {n n' x : Nat} {L : List Ver}
theorem Ixw.rL (s : Ixw K T h n x L) : dW false L := by
 obtain ⟨⟨D, M, i, _⟩, _⟩ := s
 exact i.r
theorem Ixw.sub {K' : Nat → Prop} (s : Ixw K T h n x L) (hk : ∀ j, K' j → K j) : Ixw K' T h n x L := by
 obtain ⟨⟨D, M, i, q, t⟩, g⟩ := s
 exact ⟨⟨D, M, i, fun j hj => q j (hk j hj), t⟩, g⟩
theorem Ixw.oE (s : Ixw K T h n x L) (hn : n ≤ n') (ho : Old h h' n) : Ixw (fun j => K j ∨ (n ≤ j ∧ j < n')) T h' n' x L := by
 obtain ⟨⟨D, M, i, q, t⟩, g⟩ := s
 refine ⟨⟨D, M, i.old hn ho, fun j hj => ?_, fun j hj => ⟨by have := (t j hj).1; omega, (t j hj).2⟩⟩, g⟩
 rcases hj with hj | hj
 ·exact ⟨by have := (q j hj).1; omega, (q j hj).2⟩
 ·obtain ⟨⟨S, ⟨vl, vs, xl, xs, iv, mx, ml, ms, mn⟩, _⟩, _⟩ := i
  exact ⟨hj.2, fun w => by have := (mn j w).1; omega⟩
theorem Ixw.old (s : Ixw K T h n x L) (hn : n ≤ n') (ho : Old h h' n) : Ixw K T h' n' x L := (s.oE hn ho).sub fun j q => .inl q
theorem Chg.w {D M D' M' : Nat → Prop} (c : Chg h n D M h' n' D' M') (q : ∀ j, K j → j < n ∧ ¬ M j) (t : ∀ j, T j → j < n ∧ ¬ D j) : (∀ j, K j → h' j = h j) ∧ (∀ j, K j → j < n' ∧ ¬ M' j) ∧ ∀ j, T j → j < n' ∧ ¬ D' j := by
 refine ⟨fun j hj => c.old j (q j hj).1 (q j hj).2, fun j hj => ⟨by have := (q j hj).1; have := c.nx; omega, fun w => ?_⟩, fun j hj => ⟨by have := (t j hj).1; have := c.nx; omega, fun w => ?_⟩⟩
 ·have := q j hj
  rcases c.m' j w with w | w
  ·exact this.2 w
  ·omega
 ·have := t j hj
  rcases c.d' j w with w | w
  ·exact this.2 w
  ·omega
theorem al5 (v : Ver) (sv : aA) (ov : v.Ok) (hpn : 0 ≤ v.pn) (hsl : v.aE.length ≤ 1000000) (hs : Ixw K T h n x L) (hb : Bytes h sv v.aE) (hsn : ∀ j, aL sv = some j → j < n) (hc : L.length ≤ 900000) (hf : bI h n) :
  Wp (bO env (aX env) 33 [.ptr x 0, .agg (aH v sv)]) h n fun v' h' n' => (∀ j, K j → h' j = h j) ∧ ((oI v L ∧ v' = .int .i64 210 ∧ Ixw K T h' n' x L) ∨ (¬ oI v L ∧ v' = .int .i64 0 ∧ Ixw K T h' n' x (lJ L v))) := by
 obtain ⟨⟨D, M, i, q, t⟩, g⟩ := hs
 refine cG (f33 x v sv ov hsl L D M h n i hb hsn hc hf) fun v' h' n' hh => ?_
 rcases hh with ⟨a, b, i', c⟩ | ⟨a, b, D', M', i', c⟩
 ·exact ⟨(c.w q t).1, .inl ⟨a, b, ⟨⟨_, _, i', (c.w q t).2⟩, g⟩⟩⟩
 ·refine ⟨(c.w q t).1, .inr ⟨a, b, ⟨⟨_, _, i', (c.w q t).2⟩, fun w hw => ?_⟩⟩⟩
  rcases AB.1 hw with rfl | hw
  ·refine ⟨?_, hpn⟩
   cases e : qG w with
   | false => rfl
   | true => exact absurd (.inl e) a
  ·exact g w hw
theorem al3 (aG : List UInt8) (pn made : Int) (hl : aG.length = 32) (hs : Ixw K T h n x L) (hc : L.length ≤ 900000) (hf : bI h n) :
  Wp (bO env (aX env) 34 [.ptr x 0, .agg (aQ aG pn), .int .i64 made]) h n fun v' h' n' => (∀ j, K j → h' j = h j) ∧ (((∀ w ∈ L, cV w (key aG pn made) ≠ 0) ∧ v' = .int .i64 210 ∧ Ixw K T h' n' x L) ∨ ∃ w, w ∈ L ∧ cV w (key aG pn made) = 0 ∧ v' = .int .i64 0 ∧ Ixw K T h' n' x (iZ L w)) := by
 obtain ⟨⟨D, M, i, q, t⟩, g⟩ := hs
 refine cG (f34 x aG pn made hl L D M h n i (by omega) hf) fun v' h' n' ⟨hh, c⟩ => ?_
 rcases hh with ⟨a, b, i'⟩ | ⟨w, a, b, e, i'⟩
 ·exact ⟨(c.w q t).1, .inl ⟨a, b, ⟨⟨_, _, i', (c.w q t).2⟩, g⟩⟩⟩
 ·exact ⟨(c.w q t).1, .inr ⟨w, a, b, e, ⟨⟨_, _, i', (c.w q t).2⟩, fun u hu => g u (xT hu)⟩⟩⟩
theorem al1 (aG : List UInt8) (pn made s : Int) (b : List UInt8) (hl : aG.length = 32) (hbl : b.length = 32) (hs : Ixw K T h n x L) (hc : L.length ≤ 900000) (hf : bI h n) :
  Wp (bO env (aX env) 36 [.ptr x 0, .agg (aQ aG pn), .int .i64 made, .int .i64 s, .agg (b.map u8)]) h n fun v' h' n' => (∀ j, K j → h' j = h j) ∧
   (((∀ w ∈ L, cV w (key aG pn made) = 0 → (w.bW ≠ 0 ∨ s < 1 ∨ s < made)) ∧ v' = .int .i64 210 ∧ Ixw K T h' n' x L) ∨
   (∃ w ∈ L, cV w (key aG pn made) = 0 ∧ w.bW = 0 ∧ 1 ≤ s ∧ made ≤ s ∧ v' = .int .i64 0 ∧ Ixw K T h' n' x (pY L w (iY w s b)))) := by
 have rL := hs.rL
 obtain ⟨⟨D, M, i, q, t⟩, g⟩ := hs
 refine cG (f36 x aG pn made s b hl hbl L D M h n i hc hf) fun v' h' n' hh => ?_
 rcases hh with ⟨a, e, i', c⟩ | ⟨w, hw, a1, a2, a3, a4, e, D', M', i', c⟩
 ·exact ⟨(c.w q t).1, .inl ⟨a, e, ⟨⟨_, _, i', (c.w q t).2⟩, g⟩⟩⟩
 ·rw [tV rL hw] at i'
  refine ⟨(c.w q t).1, .inr ⟨w, hw, a1, a2, a3, a4, e, ⟨⟨_, _, i', (c.w q t).2⟩, fun u hu => ?_⟩⟩⟩
  rcases qT hu with rfl | hu
  ·exact pB (g w hw) (.inr ⟨a3, by rw [(xU a1).2.2]; exact a4⟩)
  ·exact g u hu
theorem ak8 (aG : List UInt8) (pn made : Int) (hl : aG.length = 32) (hs : Ixw K T h n x L) (hc : L.length ≤ 900000) (hf : bI h n) :
  Wp (bO env (aX env) 38 [.ptr x 0, .agg (aQ aG pn), .int .i64 made]) h n fun v' h' n' => (∀ j, K j → h' j = h j) ∧
   (((∀ w ∈ L, cV w (key aG pn made) = 0 → w.bW = 0) ∧ v' = .int .i64 210 ∧ Ixw K T h' n' x L) ∨
   (∃ w ∈ L, cV w (key aG pn made) = 0 ∧ w.bW ≠ 0 ∧ v' = .int .i64 0 ∧ Ixw K T h' n' x (pY L w (iY w 0 z32)))) := by
 have rL := hs.rL
 obtain ⟨⟨D, M, i, q, t⟩, g⟩ := hs
 refine cG (f38 x aG pn made hl L D M h n i hc hf) fun v' h' n' hh => ?_
 rcases hh with ⟨a, e, i', c⟩ | ⟨w, hw, a1, a2, e, D', M', i', c⟩
 ·exact ⟨(c.w q t).1, .inl ⟨a, e, ⟨⟨_, _, i', (c.w q t).2⟩, g⟩⟩⟩
 ·rw [tV rL hw] at i'
  refine ⟨(c.w q t).1, .inr ⟨w, hw, a1, a2, e, ⟨⟨_, _, i', (c.w q t).2⟩, fun u hu => ?_⟩⟩⟩
  rcases qT hu with rfl | hu
  ·exact pB (g w hw) (.inl rfl)
  ·exact g u hu
theorem Ixw.k (s : Ixw K T h n x L) : Ixk (fun _ => False) h n x L := by
 obtain ⟨⟨D, M, i, q, t⟩, g⟩ := s
 exact ⟨⟨D, M, i, fun j q => q.elim⟩, g⟩
def RI (K : Nat → Prop) (h : Hp) (n r : Nat) (L : List Ver) : Prop := ∃ vl cells, Row h r [vl] ∧ Lst h 31 70 vl L.length cells ∧ Vm h (fun j => K j ∧ j ≠ r ∧ aL vl ≠ some j) cells L ∧ (∀ j, aL vl = some j → K j ∧ j ≠ r) ∧ K r ∧ ∀ j, K j → j < n
theorem RI.aO {K : Nat → Prop} {h h' : Hp} {n n' r : Nat} {L : List Ver} (s : RI K h n r L) (hn : n ≤ n') (hk : ∀ j, K j → h' j = h j) : RI K h' n' r L := by
 obtain ⟨vl, cells, a, b, c, d, e, f⟩ := s
 exact ⟨vl, cells, a.aO (hk r e), b.aO fun j q => hk j (d j q).1, c.mono (fun j q => q) (fun j q => hk j q.1), d, e, fun j q => by have := f j q; omega⟩
theorem RI.old {K : Nat → Prop} {h h' : Hp} {n n' r : Nat} {L : List Ver} (s : RI K h n r L) (hn : n ≤ n') (ho : Old h h' n) : RI K h' n' r L :=
 s.aO hn fun j q => ho j (by obtain ⟨vl, cells, a, b, c, d, e, f⟩ := s; exact f j q)
theorem RI.vl {K : Nat → Prop} {h : Hp} {n r : Nat} {L : List Ver} (s : RI K h n r L) : ∃ vl, Row h r [vl] ∧ VL h 0 n vl L ∧ r < n := by
 obtain ⟨vl, cells, a, b, c, d, e, f⟩ := s
 exact ⟨vl, a, ⟨cells, b, c.mono (fun j q => ⟨Nat.zero_le _, f j q.1, q.2.2⟩) (fun j q => rfl), fun j q => ⟨Nat.zero_le _, f j (d j q).1⟩⟩, f r e⟩
theorem VL.wd {h : Hp} {a b c d : Nat} {v : aA} {vs : List Ver} (l : VL h a b v vs) (h1 : c ≤ a) (h2 : b ≤ d) : VL h c d v vs := by
 obtain ⟨cells, c1, c2, c3⟩ := l
 exact ⟨cells, c1, c2.mono (fun j q => ⟨by omega, by omega, q.2.2⟩) (fun j q => rfl), fun j q => by have := c3 j q; omega⟩
theorem zI {w : Ver} {aG : List UInt8} {pn made : Int} : cV w (key aG pn made) = 0 ↔ lK w.aG w.pn aG pn = 0 ∧ w.made = made := by
 have e : cV w (key aG pn made) = orI (lK w.aG w.pn aG pn) (jR w.made made) := rfl
 rw [e]
 unfold orI
 split
 ·rename_i q
  exact ⟨fun h => ⟨q, mZ.1 h⟩, fun h => mZ.2 h.2⟩
 ·rename_i q
  exact ⟨fun h => absurd h q, fun h => absurd h.1 q⟩
def AtR (L : List Ver) (aG : List UInt8) (pn made i : Int) : Prop := (i = -1 ∧ ∀ w ∈ L, cV w (key aG pn made) ≠ 0) ∨ ∃ k : Nat, ∃ hk : k < L.length, i = (k : Nat) ∧ cV L[k] (key aG pn made) = 0
set_option maxHeartbeats 4000000 in
theorem M0 (Q : dM) (ks : List Kf) (r b n0 : Nat) (vl : aA) (aG : List UInt8) (pn made : Int) (hl : aG.length = 32) (L : List Ver) (hc : L.length ≤ 1000000) (h0 : Hp) (r0 : Row h0 r [vl]) (b0 : Row h0 b (aQ aG pn)) (l0 : VL h0 0 n0 vl L) (hr : r < n0) (hb : b < n0)
  (hT : ∀ (h : Hp) (n : Nat) (i : Int) (x0 x1 x2 x4 x7 x14 x39 : aA), AtR L aG pn made i → 0 ≤ i → Old h0 h n0 → dR env 110 none Q ks .ret (x0 :: x1 :: x2 :: aA.aB :: x4 :: aA.aB :: .int .i64 i :: x7 :: aA.aB :: aA.aB :: aA.aB :: aA.aB :: aA.aB :: aA.aB :: x14 :: aA.aB :: aA.aB :: aA.aB :: aA.aB :: aA.aB :: aA.aB :: aA.aB :: aA.aB :: aA.aB :: aA.aB :: aA.aB :: aA.aB :: aA.aB :: aA.aB :: aA.aB :: aA.aB :: aA.aB :: aA.aB :: aA.aB :: aA.aB :: aA.aB :: aA.aB :: aA.aB :: aA.aB :: x39 :: aA.aB :: []) h n)
  (hF : ∀ (h : Hp) (n : Nat) (x0 x1 x2 x4 x7 x14 x39 : aA), (∀ w ∈ L, cV w (key aG pn made) ≠ 0) → Old h0 h n0 → dR env 110 none Q ks (.exit 0) (x0 :: x1 :: x2 :: aA.aB :: x4 :: aA.aB :: .int .i64 0 :: x7 :: aA.aB :: aA.aB :: aA.aB :: aA.aB :: aA.aB :: aA.aB :: x14 :: aA.aB :: aA.aB :: aA.aB :: aA.aB :: aA.aB :: aA.aB :: aA.aB :: aA.aB :: aA.aB :: aA.aB :: aA.aB :: aA.aB :: aA.aB :: aA.aB :: aA.aB :: aA.aB :: aA.aB :: aA.aB :: aA.aB :: aA.aB :: aA.aB :: aA.aB :: aA.aB :: aA.aB :: x39 :: aA.aB :: []) h n) :
  ∀ (m i : Nat) (h : Hp) (n : Nat) (x1 x14 x39 : aA), i + m = L.length → Old h0 h n0 → n0 ≤ n → bI h n → (∀ k (hk : k < L.length), k < i → cV L[k] (key aG pn made) ≠ 0) →
   Run env 110 none Q (.loop yX) ks (.ptr r 0 :: x1 :: .int .i64 made :: aA.aB :: .ptr b 0 :: aA.aB :: .int .i64 0 :: .int .i64 (i : Nat) :: aA.aB :: aA.aB :: aA.aB :: aA.aB :: aA.aB :: aA.aB :: x14 :: aA.aB :: aA.aB :: aA.aB :: aA.aB :: aA.aB :: aA.aB :: aA.aB :: aA.aB :: aA.aB :: aA.aB :: aA.aB :: aA.aB :: aA.aB :: aA.aB :: aA.aB :: aA.aB :: aA.aB :: aA.aB :: aA.aB :: aA.aB :: aA.aB :: aA.aB :: aA.aB :: aA.aB :: x39 :: aA.aB :: []) h n := by
 intro m
 induction m with
 | zero =>
  intro i h n x1 x14 x39 hm ho hn hf hno
  have : i = L.length := by omega
  subst this
  have hcc : ¬ ((L.length : Nat) : Int) < ((L.length : Nat) : Int) := by omega
  have rr := r0.aO (ho r hr)
  have l := l0.aO fun j _ q => ho j q
  rw [bP]
  simp only [yX, bC, Try.f110, Option.getD_some, tyr, aM, Int.reduceNeg, List.getD_cons_zero, gE]
  rw [aF (Row.one (off := 0) rr rfl fZ rfl)]
  simp only [fgr, builtin, bor, l.len, hcc, gE]
  exact hF h n _ _ _ _ _ _ _ (fun w hw => by obtain ⟨k, hk, rfl⟩ := List.mem_iff_getElem.1 hw; exact hno k hk hk) ho
 | succ m ih =>
  intro i h n x1 x14 x39 hm ho hn hf hno
  have hil : i < L.length := by omega
  have hcc : (((i : Nat) : Int) < ((L.length : Nat) : Int)) := by omega
  have w1 : IntKind.i64.wrap (((i : Nat) : Int) + 1) = ((i + 1 : Nat) : Int) := by rw [w64 (by omega) (by omega)]; omega
  have rr := r0.aO (ho r hr)
  have bb := b0.aO (ho b hb)
  have l := l0.aO fun j _ q => ho j q
  obtain ⟨sw, va⟩ := l.at_ hil
  rw [bP]
  simp only [yX, bC, Try.f110, Option.getD_some, tyr, aM, Int.reduceNeg, List.getD_cons_zero, gE]
  rw [aF (Row.one (off := 0) rr rfl fZ rfl)]
  simp only [fgr, builtin, bor, l.len, hcc, gE]
  refine bY ⟨rfl, ?_⟩
  simp only [tyr, aM, Nat.reduceAdd, gE]
  rw [aR (Row.one (off := 0) rr rfl fZ rfl)]
  simp only [Nat.reduceAdd, gE]
  rw [aR (l.idx hil)]
  simp only [tyr, Nat.reduceAdd, va.mv, gE]
  rw [aR (va.pt n)]
  simp only [Nat.reduceAdd, gE]
  rw [aR (Row.j9 bb gQ rfl (c9 hl))]
  simp only [hkr, Nat.reduceAdd, gE]
  refine cK hf (f87 L[i].aG aG L[i].pn pn va.ok.h hl h n hf) fun v3 h3 n3 rr3 ww3 hn3 f3 ⟨e3, o3⟩ => ?_
  subst e3
  have ho3 : Old h0 h3 n0 := fun j hj => (o3 j (by omega)).trans (ho j hj)
  have rr3 := r0.aO (ho3 r hr)
  have l3 := l0.aO fun j _ q => ho3 j q
  obtain ⟨sw3, va3⟩ := l3.at_ hil
  by_cases c : lK L[i].aG L[i].pn aG pn = 0
  ·simp only [tyr, bor, aM, Nat.reduceAdd, c, gE]
   rw [aR (Row.one (off := 0) rr3 rfl fZ rfl)]
   simp only [Nat.reduceAdd, gE]
   rw [aR (l3.idx hil)]
   simp only [tyr, Nat.reduceAdd, va3.mv, gE]
   rw [aR (va3.made n3)]
   by_cases c2 : L[i].made = made
   ·simp only [fgr, bor, aY, Nat.reduceAdd, c2, gE]
    refine ⟨(by (try simp (disch := first | assumption | omega) only [dX, gF]); repeat' (first | rfl | exact (Bool.or_eq_true _ _).mpr (.inr rfl) | refine (Bool.and_eq_true _ _).mpr ⟨?_, ?_⟩)), ?_⟩
    exact hT h3 n3 _ _ _ _ _ _ _ _ (.inr ⟨i, hil, rfl, zI.2 ⟨c, c2⟩⟩) (by omega) ho3
   ·simp only [fgr, bor, bR, aY, Nat.reduceAdd, c2, gE]
    refine ⟨(by (try simp (disch := first | assumption | omega) only [dX, gF]); repeat' (first | rfl | exact (Bool.or_eq_true _ _).mpr (.inr rfl) | refine (Bool.and_eq_true _ _).mpr ⟨?_, ?_⟩)), ?_⟩
    simp only [w1]
    exact ih (i + 1) h3 n3 _ _ _ (by omega) ho3 (by omega) f3 fun k hk hki => by
     by_cases q : k = i
     ·subst q; exact fun w => c2 (zI.1 w).2
     ·exact hno k hk (by omega)
  ·simp only [fgr, bor, bR, aY, Nat.reduceAdd, c, gE]
   refine ⟨(by (try simp (disch := first | assumption | omega) only [dX, gF]); repeat' (first | rfl | exact (Bool.or_eq_true _ _).mpr (.inr rfl) | refine (Bool.and_eq_true _ _).mpr ⟨?_, ?_⟩)), ?_⟩
   simp only [w1]
   exact ih (i + 1) h3 n3 _ _ _ (by omega) ho3 (by omega) f3 fun k hk hki => by
    by_cases q : k = i
    ·subst q; exact fun w => c (zI.1 w).1
    ·exact hno k hk (by omega)
theorem f110 {K : Nat → Prop} {r : Nat} (aG : List UInt8) (pn made : Int) (hl : aG.length = 32) {L : List Ver} {h : Hp} {n : Nat} (hs : RI K h n r L) (hc : L.length ≤ 1000000) (hf : bI h n) :
  Wp (bO env (aX env) 110 [.ptr r 0, .agg (aQ aG pn), .int .i64 made]) h n fun v' h' n' => (∃ i, v' = .int .i64 i ∧ AtR L aG pn made i) ∧ Old h h' n := by
 obtain ⟨vl, r0, l0, hr⟩ := hs.vl
 refine bG VO UN ?_
 simp only [J6, Try.f110, Option.getD_some, List.replicate, Nat.reduceAdd, Nat.reduceSub, Int.reduceNeg, gE]
 refine cL (v := .agg (aQ aG pn)) gQ rfl hf fun H1 r1 o1 f1 => ?_
 replace r1 : Row H1 n (aQ aG pn) := r1
 have O1 : Old h H1 n := fun j hj => o1 j (by omega)
 simp only [fgr, Int.reduceNeg, gE]
 refine M0 _ _ r n (n + 1) vl aG pn made hl L hc H1 (r0.aO (O1 r hr)) r1 ((l0.aO fun j _ q => O1 j q).wd (Nat.le_refl _) (by omega)) (by omega) (by omega) ?_ ?_ L.length 0 H1 (n + 1) _ _ _ (by omega) (Old.refl _ _) (Nat.le_refl _) f1 (fun k hk q => absurd q (by omega))
 ·intro h2 n2 i x0 x1 x2 x4 x7 x14 x39 ha hi ho
  simp only [cC, nth, Int.reduceNeg, true_and]
  exact ⟨⟨i, rfl, ha⟩, fun j hj => (ho j (by omega)).trans (O1 j hj)⟩
 ·intro h2 n2 x0 x1 x2 x4 x7 x14 x39 hno ho
  simp only [fgr, Int.reduceNeg, gE]
  exact ⟨⟨-1, rfl, .inl ⟨rfl, hno⟩⟩, fun j hj => (ho j (by omega)).trans (O1 j hj)⟩
end Go.Am.Ytlgebaofkolkoaa
set_option linter.unusedSimpArgs false
set_option linter.unusedVariables false
set_option linter.defProp false
set_option maxRecDepth 10000
namespace Go.Am.Ytlgebaofkolkoaa
open Go Go.Am Go.Proofs
def Acc (D : Nat → Prop) (n0 : Nat) (h : Hp) (acc : aA) (l : List Ver) : Prop := ∃ cells, Lst h 31 70 acc l.length cells ∧ Vm h D cells l ∧ ∀ j, aL acc = some j → n0 ≤ j
theorem Acc.aO {D : Nat → Prop} {n0 : Nat} {h h' : Hp} {acc : aA} {l : List Ver} (a : Acc D n0 h acc l) (hk : ∀ j, D j ∨ aL acc = some j → h' j = h j) : Acc D n0 h' acc l := by
 obtain ⟨cells, c1, c2, c3⟩ := a
 exact ⟨cells, c1.aO fun j q => hk j (.inr q), c2.mono (fun j q => q) (fun j q => hk j (.inl q)), c3⟩
theorem Acc.nil {D : Nat → Prop} {n0 : Nat} {h : Hp} : Acc D n0 h .aT [] := ⟨[], .nil, Vm.nil _ _, fun j q => by cases q⟩
theorem Acc.dJ {D : Nat → Prop} {n0 : Nat} {h : Hp} {acc : aA} {l : List Ver} (a : Acc D n0 h acc l) {n : Nat} (hf : bI h n) {j : Nat} (hj : aL acc = some j) : j < n := by
 obtain ⟨cells, c1, c2, c3⟩ := a
 exact c1.dJ hf hj
theorem Acc.old {D : Nat → Prop} {n0 n : Nat} {h h' : Hp} {acc : aA} {l : List Ver} (a : Acc D n0 h acc l) (hD : ∀ j, D j → j < n) (hf : bI h n) (ho : Old h h' n) : Acc D n0 h' acc l :=
 a.aO fun j q => ho j (q.elim (hD j) (fun q => a.dJ hf q))
theorem jB {fn : FuncId} {rnd : Option Nat} {Q : dM} {ks : List Kf} {ops bM : List Oper} {d : Option Tmp} {tm : List aA} {D : Nat → Prop} {n0 n id : Nat} {h : Hp} {acc sw : aA} {l : List Ver} {w : Ver} (a : Acc D n0 h acc l) (hD : ∀ j, D j → j < n0) (g : h id = some (.row (.l (aH w sw)) 31)) (ow : w.Ok) (hb : Bytes h sw w.aE) (hs : ∀ j, aL sw = some j → D j) (hm : nW sw = true) (hl : l.length ≤ 1000000) (hn : n0 ≤ n) (hf : bI h n)
  (hq : ∀ acc' h' n', n ≤ n' → bI h' n' → Acc D n0 h' acc' (l ++ [w]) → Old h h' n0 → Ops env fn rnd Q ks ops bM (cE tm d acc') h' n') : OpV env fn rnd Q ks ops bM d tm (fP env [43, 43] acc (.sl id 0 1 (some 1) 70)) h n := by
 obtain ⟨cells, c1, c2, c3⟩ := a
 refine fV (i := fA.i) (e := 31) c1 (mL (cnt := 1) g (by rw [aW ow.h ow.b]; rfl)) u43 u43 dZ (dH hb.kind.2.1) (by decide) (by show 2 * (_ + 1) * 128 ≤ _; omega) (by omega) hf ?_
 intro acc' h4 n4 hn4 f4 l4 i4 o4
 have hk : ∀ j, D j → h4 j = h j := fun j q => o4 j (by have := hD j q; omega) (fun w => by have := c3 j w; have := hD j q; omega)
 refine hq acc' h4 n4 hn4 f4 ⟨cells ++ aH w sw, by rw [List.length_append]; exact l4, (c2.mono (fun j q => q) hk).wI (hb.aO fun j q => hk j (hs j q)) ow hs hm, fun j q => ?_⟩ (fun j hj => o4 j (by omega) (fun w => by have := c3 j w; omega))
 rcases i4 with w | ⟨w, _⟩
 ·rw [w] at q; exact c3 j q
 ·rw [w] at q; injection q with q; omega
theorem Acc.idx {D : Nat → Prop} {n0 : Nat} {h : Hp} {v : aA} {vs : List Ver} (l : Acc D n0 h v vs) {i : Nat} (hi : i < vs.length) {h' : Hp} {n' : Nat} : Rd (indexAddr env 43 v (.int .i64 ((i : Nat) : Int))) h' n' [] (eM (i * 70) v) := by
 obtain ⟨cells, c1, c2, c3⟩ := l
 exact c1.rds.idx u43 BV rfl hi
theorem Acc.len {D : Nat → Prop} {n0 : Nat} {h : Hp} {v : aA} {vs : List Ver} (l : Acc D n0 h v vs) {ts : List TypeId} : cP env (43 :: ts) v = M.pure (.int .i64 (vs.length : Nat)) := by
 obtain ⟨cells, c1, c2, c3⟩ := l
 exact c1.rds.cP u43
theorem Acc.kind {D : Nat → Prop} {n0 : Nat} {h : Hp} {v : aA} {vs : List Ver} (l : Acc D n0 h v vs) : v.cells = [v] ∧ bK v = true ∧ eI v = false := by
 obtain ⟨cells, c1, c2, c3⟩ := l
 exact c1.rds.kind
theorem Acc.at_ {D : Nat → Prop} {n0 : Nat} {h : Hp} {v : aA} {vs : List Ver} (l : Acc D n0 h v vs) {i : Nat} (hi : i < vs.length) {n : Nat} (hD : ∀ j, D j → j < n) : ∃ sw, VAt h 0 n v (i * 70) vs[i] sw ∧ (∀ j, aL sw = some j → D j) ∧ nW sw = true := by
 obtain ⟨cells, c1, c2, c3⟩ := l
 obtain ⟨sw, e, bs, o, d⟩ := c2.at_ i hi
 have hr := c1.rds
 have hl : i * 70 + 70 ≤ cells.length := by rw [c2.len]; omega
 have one : ∀ k x, k < 70 → (aH vs[i] sw)[k]? = some x → cells[i * 70 + k]? = some x := fun k x hk hx => by rw [AE e hk, hx]
 refine ⟨sw, ⟨o, fun n => ?_, fun n => ?_, fun n => hr.load ti3 rfl (one 33 _ (by omega) (fT o.h 0)), fun n => hr.load ti3 rfl (one 37 _ (by omega) (fT o.h 4)), fun n => hr.load jJ rfl (one 35 _ (by omega) (fT o.h 2)), fun k m => jN hr (by omega) k m, bs, fun j q => ⟨Nat.zero_le _, hD j (d j q)⟩⟩, d, c2.mn i sw (one 35 _ (by omega) (fT o.h 2))⟩
 ·have := hr.agg (E := env) (n := n) (k := i * 70) dZ rfl (by decide) hl
  have e' : (cells.drop (i * 70)).take 70 = aH vs[i] sw := e
  exact e' ▸ this
 ·have := hr.agg (E := env) (n := n) (k := i * 70) gQ rfl (by decide) (by show i * 70 + 33 ≤ _; omega)
  have e' : (cells.drop (i * 70)).take 33 = aQ vs[i].aG vs[i].pn := by
   rw [← uA (sv := sw) o.h, ← e, List.take_take]; rfl
  exact e' ▸ this
theorem RI.acc {K : Nat → Prop} {h : Hp} {n r : Nat} {L : List Ver} (s : RI K h n r L) : ∃ vl, Row h r [vl] ∧ Acc (fun j => K j ∧ j ≠ r ∧ aL vl ≠ some j) 0 h vl L ∧ (∀ j, aL vl = some j → K j ∧ j ≠ r) ∧ K r ∧ ∀ j, K j → j < n := by
 obtain ⟨vl, cells, a, b, c, d, e, f⟩ := s
 exact ⟨vl, a, ⟨cells, b, c, fun j _ => Nat.zero_le _⟩, d, e, f⟩
theorem VZ (v : aA) (l : List UInt8) (h : Hp) (n : Nat) (hb : Bytes h v l) (hl : l.length ≤ 1000000) (hf : bI h n) : Wp (bO env (aX env) 111 [v]) h n fun v' h' n' => Bytes h' v' l ∧ (∀ j, aL v' = some j → n ≤ j ∧ j < n') ∧ Old h h' n ∧ nW v' = true := by
 refine bG VN UM ?_
 simp only [J5, Try.f111, Option.getD_some, List.replicate, fgr, builtin, Nat.reduceSub, gE]
 refine fV (i := ⟨.int .u8, 1, 1, .int .u8 0⟩) (e := 5) (cnt := 0) (xs := []) .nil hb.rds t29 t29 ti5 (pS l) (by decide) (by show 2 * (0 + l.length) * 1 ≤ _; omega) (by omega) hf ?_
 intro v' h' n' hn hf' ho hid hold
 simp only [fgr, gE]
 rw [List.nil_append] at ho
 refine ⟨ho.rds.bytes (by intro e; subst e; cases ho), fun j hj => ?_, fun j hj => hold j hj (fun e => by cases e), Lst.nW ho⟩
 rcases hid with q | ⟨q, q2⟩
 ·rw [q] at hj; cases hj
 ·rw [q] at hj; injection hj with hj; omega
def q9 (L : List Ver) (p : Nat) (v : Ver) (i : Nat) : List Ver := match decide (p < i) with
 | true => fG (L.take i) p v
 | false => L.take i
theorem qZ {L : List Ver} {p i : Nat} {v : Ver} (h : i ≤ p) : q9 L p v i = L.take i := by
 unfold q9
 rw [decide_eq_false (by omega)]
theorem LM {L : List Ver} {p : Nat} {v : Ver} (h : p < L.length) : q9 L p v (p + 1) = L.take p ++ [v] ++ [L[p]] := by
 unfold q9 fG
 rw [decide_eq_true (by omega)]
 simp only
 rw [hG h, List.take_append_of_le_length (by rw [List.length_take]; omega), List.take_of_length_le (by rw [List.length_take]; omega), List.drop_append_of_le_length (by rw [List.length_take]; omega), List.drop_of_length_le (by rw [List.length_take]; omega)]
 simp
theorem LL {L : List Ver} {p i : Nat} {v : Ver} (h : p < i) (hi : i < L.length) : q9 L p v (i + 1) = q9 L p v i ++ [L[i]] := by
 unfold q9 fG
 rw [decide_eq_true (by omega), decide_eq_true (by omega)]
 simp only
 rw [hG hi, List.take_append_of_le_length (by rw [List.length_take]; omega), List.drop_append_of_le_length (by rw [List.length_take]; omega)]
 simp
theorem AH (L : List Ver) (p i : Nat) (v : Ver) : (q9 L p v i).length ≤ L.length + 1 := by
 unfold q9 fG
 split <;> simp only [List.length_append, List.length_cons, List.length_take, List.length_drop] <;> omega
theorem HM {L : List Ver} {p : Nat} {v : Ver} (h : p < L.length) : q9 L p v L.length = fG L p v := by
 unfold q9
 rw [decide_eq_true h, List.take_length]
set_option maxHeartbeats 4000000 in
theorem PJ (Q : dM) (ks : List Kf) (r b n0 p : Nat) (vl sw : aA) (v : Ver) (ov : v.Ok) (L : List Ver) (hc : L.length ≤ 900000) (D0 D : Nat → Prop) (h0 : Hp) (r0 : Row h0 r [vl]) (b0 : Row h0 b (aH v sw)) (l0 : Acc D0 0 h0 vl L)
  (hp : Pos false L v p) (hno : ∀ w ∈ L, cV w v ≠ 0) (hr : r < n0) (hb : b < n0) (hvl : ∀ j, aL vl = some j → j < n0) (hD : ∀ j, D j → j < n0) (hDD : ∀ j, D0 j → D j) (hsw : Bytes h0 sw v.aE) (hsD : ∀ j, aL sw = some j → D j) (hsm : nW sw = true)
  (hT : ∀ (h : Hp) (n : Nat) (acc : aA) (x1 x5 x8 x38 x49 x65 x81 : aA), Acc D n0 h acc (q9 L p v L.length) → Old h0 h n0 → n0 ≤ n → bI h n → dR env 92 none Q ks (.exit 0) (.ptr r 0 :: x1 :: aA.aB :: .ptr b 0 :: .int .i64 0 :: x5 :: acc :: .bool (decide (p < L.length)) :: x8 :: aA.aB :: aA.aB :: aA.aB :: aA.aB :: aA.aB :: aA.aB :: aA.aB :: aA.aB :: aA.aB :: aA.aB :: aA.aB :: aA.aB :: aA.aB :: aA.aB :: aA.aB :: aA.aB :: aA.aB :: aA.aB :: aA.aB :: aA.aB :: aA.aB :: aA.aB :: aA.aB :: aA.aB :: aA.aB :: aA.aB :: aA.aB :: aA.aB :: aA.aB :: x38 :: aA.aB :: aA.aB :: aA.aB :: aA.aB :: aA.aB :: aA.aB :: aA.aB :: aA.aB :: aA.aB :: aA.aB :: x49 :: aA.aB :: aA.aB :: aA.aB :: aA.aB :: aA.aB :: aA.aB :: aA.aB :: aA.aB :: aA.aB :: aA.aB :: aA.aB :: aA.aB :: aA.aB :: aA.aB :: aA.aB :: x65 :: aA.aB :: aA.aB :: aA.aB :: aA.aB :: aA.aB :: aA.aB :: aA.aB :: aA.aB :: aA.aB :: aA.aB :: aA.aB :: aA.aB :: aA.aB :: aA.aB :: aA.aB :: x81 :: aA.aB :: aA.aB :: aA.aB :: aA.aB :: aA.aB :: aA.aB :: aA.aB :: aA.aB :: []) h n) :
  ∀ (m i : Nat) (h : Hp) (n : Nat) (acc : aA) (x1 x5 x38 x49 x65 x81 : aA), i + m = L.length → Acc D n0 h acc (q9 L p v i) → Old h0 h n0 → n0 ≤ n → bI h n →
   Run env 92 none Q (.loop yV) ks (.ptr r 0 :: x1 :: aA.aB :: .ptr b 0 :: .int .i64 0 :: x5 :: acc :: .bool (decide (p < i)) :: .int .i64 (i : Nat) :: aA.aB :: aA.aB :: aA.aB :: aA.aB :: aA.aB :: aA.aB :: aA.aB :: aA.aB :: aA.aB :: aA.aB :: aA.aB :: aA.aB :: aA.aB :: aA.aB :: aA.aB :: aA.aB :: aA.aB :: aA.aB :: aA.aB :: aA.aB :: aA.aB :: aA.aB :: aA.aB :: aA.aB :: aA.aB :: aA.aB :: aA.aB :: aA.aB :: aA.aB :: x38 :: aA.aB :: aA.aB :: aA.aB :: aA.aB :: aA.aB :: aA.aB :: aA.aB :: aA.aB :: aA.aB :: aA.aB :: x49 :: aA.aB :: aA.aB :: aA.aB :: aA.aB :: aA.aB :: aA.aB :: aA.aB :: aA.aB :: aA.aB :: aA.aB :: aA.aB :: aA.aB :: aA.aB :: aA.aB :: aA.aB :: x65 :: aA.aB :: aA.aB :: aA.aB :: aA.aB :: aA.aB :: aA.aB :: aA.aB :: aA.aB :: aA.aB :: aA.aB :: aA.aB :: aA.aB :: aA.aB :: aA.aB :: aA.aB :: x81 :: aA.aB :: aA.aB :: aA.aB :: aA.aB :: aA.aB :: aA.aB :: aA.aB :: aA.aB :: []) h n := by
 intro m
 induction m with
 | zero =>
  intro i h n acc x1 x5 x38 x49 x65 x81 hm ha ho hn hf
  have : i = L.length := by omega
  subst this
  have hcc : ¬ ((L.length : Nat) : Int) < ((L.length : Nat) : Int) := by omega
  have rr := r0.aO (ho r hr)
  have l := l0.aO (h' := h) fun j q => ho j (q.elim (fun q => hD j (hDD j q)) (hvl j))
  rw [bP]
  simp only [yV, bC, Try.f92, Option.getD_some, tyr, aM, List.getD_cons_zero, gE]
  rw [aF (Row.one (off := 0) rr rfl fZ rfl)]
  simp only [fgr, builtin, bor, l.len, hcc, gE]
  exact hT h n acc _ _ _ _ _ _ _ ha ho hn hf
 | succ m ih =>
  intro i h n acc x1 x5 x38 x49 x65 x81 hm ha ho hn hf
  have hil : i < L.length := by omega
  have hcc : (((i : Nat) : Int) < ((L.length : Nat) : Int)) := by omega
  have w1 : IntKind.i64.wrap (((i : Nat) : Int) + 1) = ((i + 1 : Nat) : Int) := by rw [w64 (by omega) (by omega)]; omega
  have rr := r0.aO (ho r hr)
  have bb := b0.aO (ho b hb)
  have kp : ∀ (H : Hp), Old h0 H n0 → Acc D0 0 H vl L := fun H hO => l0.aO fun j q => hO j (q.elim (fun q => hD j (hDD j q)) (hvl j))
  have l := kp h ho
  obtain ⟨sx, va, sd, sdm⟩ := l.at_ hil (n := n0) (fun j q => hD j (hDD j q))
  have lle : ∀ k, (q9 L p v k).length ≤ 1000000 := fun k => by have := AH L p k v; omega
  by_cases c : p < i
  ·have e1 : decide (p < i) = true := decide_eq_true c
   have e2 : decide (p < i + 1) = true := decide_eq_true (by omega)
   have hih := ih (i + 1)
   rw [e2] at hih
   rw [e1, bP]
   simp only [yV, bC, Try.f92, Option.getD_some, tyr, aM, List.getD_cons_zero, gE]
   rw [aF (Row.one (off := 0) rr rfl fZ rfl)]
   simp only [fgr, builtin, bor, l.len, hcc, gE]
   refine bY ⟨rfl, ?_⟩
   simp only [tyr, fgr, unOp, aY, aM, Nat.reduceAdd, gE]
   refine ⟨(by (try simp (disch := first | assumption | omega) only [dX, gF]); repeat' (first | rfl | exact (Bool.or_eq_true _ _).mpr (.inr rfl) | refine (Bool.and_eq_true _ _).mpr ⟨?_, ?_⟩)), ?_⟩
   rw [aF (Row.one (off := 0) rr rfl fZ rfl)]
   simp only [gE]
   rw [aF (l.idx hil)]
   simp only [gE]
   rw [aF (va.all n)]
   simp only [sO (aW va.ok.h va.ok.b), gE]
   refine i6 dZ hf (f := fun id => aA.sl id 0 1 (some 1) 70) fun H3 g3 o3 f3 => ?_
   simp only [builtin, gE]
   have O3 : Old h0 H3 n0 := fun j hj => by rw [o3 j (by omega), ho j hj]
   obtain ⟨sy, vb, se⟩ := (kp H3 O3).at_ hil (n := n0) (fun j q => hD j (hDD j q))
   refine jB (ha.aO fun j q => o3 j (by rcases q with q | q; have := hD j q; omega; have := ha.dJ hf q; omega)) hD g3 va.ok (va.s.aO fun j q => o3 j (by have := (va.sn j q).2; omega)) (fun j q => hDD j (sd j q)) sdm (lle i) (by omega) f3 ?_
   intro acc' h4 n4 hn4 f4 a4 o4
   simp only [fgr, bor, bR, w1, gE]
   rw [← LL c hil] at a4
   exact hih h4 n4 acc' _ _ _ _ _ _ (by omega) a4 (fun j hj => by rw [o4 j hj, O3 j hj]) (by omega) f4
  ·have e1 : decide (p < i) = false := decide_eq_false c
   rw [e1, bP]
   simp only [yV, bC, Try.f92, Option.getD_some, tyr, aM, List.getD_cons_zero, gE]
   rw [aF (Row.one (off := 0) rr rfl fZ rfl)]
   simp only [fgr, builtin, bor, l.len, hcc, gE]
   refine bY ⟨rfl, ?_⟩
   simp only [unOp, Nat.reduceAdd, gE]
   rw [aR (dY bb ov)]
   simp only [tyr, aM, Nat.reduceAdd, gE]
   rw [aR (Row.one (off := 0) rr rfl fZ rfl)]
   simp only [Nat.reduceAdd, gE]
   rw [aR (l.idx hil)]
   simp only [Nat.reduceAdd, gE]
   rw [aR (va.all n)]
   simp only [hkr, Nat.reduceAdd, gE]
   refine cK hf (f45 v L[i] sw sx ov va.ok h n hf) fun v2 h2 n2 rr2 ww2 hn2 f2 ⟨q2, o2⟩ => ?_
   subst q2
   have O2 : Old h0 h2 n0 := fun j hj => by rw [o2 j (by omega), ho j hj]
   have rr2' := r0.aO (O2 r hr)
   have bb2 := b0.aO (O2 b hb)
   have l2 := kp h2 O2
   have ha2 : Acc D n0 h2 acc (q9 L p v i) := ha.old (fun j q => by have := hD j q; omega) hf o2
   obtain ⟨sy, vb, se, sem⟩ := l2.at_ hil (n := n0) (fun j q => hD j (hDD j q))
   have lI := nR.lI L[i] v
   by_cases ci : i = p
   ·subst ci
    have k1 := hp.hi i hil (Nat.le_refl _)
    have k2 := hno _ (List.getElem_mem hil)
    have k1' : ¬ cV L[i] v < 0 := k1
    have k3 : cV v L[i] < 0 := by omega
    have e2 : decide (i < i + 1) = true := decide_eq_true (by omega)
    have hih := ih (i + 1)
    rw [e2] at hih
    simp only [fgr, bor, aY, Nat.reduceAdd, k3, gE]
    refine ⟨(by (try simp (disch := first | assumption | omega) only [dX, gF]); repeat' (first | rfl | exact (Bool.or_eq_true _ _).mpr (.inr rfl) | refine (Bool.and_eq_true _ _).mpr ⟨?_, ?_⟩)), ?_⟩
    rw [aF (dY bb2 ov)]
    simp only [sO (aW ov.h ov.b), gE]
    refine i6 dZ f2 (f := fun id => aA.sl id 0 1 (some 1) 70) fun H3 g3 o3 f3 => ?_
    simp only [builtin, gE]
    have O3 : Old h0 H3 n0 := fun j hj => by rw [o3 j (by omega), O2 j hj]
    refine jB (ha2.aO fun j q => o3 j (by rcases q with q | q; have := hD j q; omega; have := ha2.dJ f2 q; omega)) hD g3 ov (hsw.aO fun j q => O3 j (hD j (hsD j q))) hsD hsm (lle i) (by omega) f3 ?_
    intro acc' h4 n4 hn4 f4 a4 o4
    have O4 : Old h0 h4 n0 := fun j hj => by rw [o4 j hj, O3 j hj]
    have l4 := kp h4 O4
    obtain ⟨sz, vc, sg, sgm⟩ := l4.at_ hil (n := n0) (fun j q => hD j (hDD j q))
    simp only [tyr, fgr, aM, gE]
    rw [aF (Row.one (off := 0) (r0.aO (O4 r hr)) rfl fZ rfl)]
    simp only [gE]
    rw [aF (l4.idx hil)]
    simp only [gE]
    rw [aF (vc.all n4)]
    simp only [sO (aW vc.ok.h vc.ok.b), gE]
    refine i6 dZ f4 (f := fun id => aA.sl id 0 1 (some 1) 70) fun H5 g5 o5 f5 => ?_
    simp only [builtin, gE]
    have O5 : Old h0 H5 n0 := fun j hj => by rw [o5 j (by omega), O4 j hj]
    refine jB (a4.aO fun j q => o5 j (by rcases q with q | q; have := hD j q; omega; have := a4.dJ f4 q; omega)) hD g5 vc.ok (vc.s.aO fun j q => o5 j (by have := (vc.sn j q).2; omega)) (fun j q => hDD j (sg j q)) sgm (by have := lle i; rw [List.length_append, List.length_singleton]; have := AH L i i v; omega) (by omega) f5 ?_
    intro acc6 h6 n6 hn6 f6 a6 o6
    simp only [fgr, bor, bR, w1, gE]
    rw [qZ (Nat.le_refl _), ← LM hil] at a6
    exact hih h6 n6 acc6 _ _ _ _ _ _ (by omega) a6 (fun j hj => by rw [o6 j hj, O5 j hj]) (by omega) f6
   ·have k1 := hp.lo i hil (by omega)
    have k1' : cV L[i] v < 0 := k1
    have k3 : ¬ cV v L[i] < 0 := by omega
    have e2 : decide (p < i + 1) = false := decide_eq_false (by omega)
    have hih := ih (i + 1)
    rw [e2] at hih
    simp only [tyr, fgr, bor, aY, aM, Nat.reduceAdd, k3, gE]
    refine ⟨(by (try simp (disch := first | assumption | omega) only [dX, gF]); repeat' (first | rfl | exact (Bool.or_eq_true _ _).mpr (.inr rfl) | refine (Bool.and_eq_true _ _).mpr ⟨?_, ?_⟩)), ?_⟩
    rw [aF (Row.one (off := 0) rr2' rfl fZ rfl)]
    simp only [gE]
    rw [aF (l2.idx hil)]
    simp only [gE]
    rw [aF (vb.all n2)]
    simp only [sO (aW vb.ok.h vb.ok.b), gE]
    refine i6 dZ f2 (f := fun id => aA.sl id 0 1 (some 1) 70) fun H3 g3 o3 f3 => ?_
    simp only [builtin, gE]
    have O3 : Old h0 H3 n0 := fun j hj => by rw [o3 j (by omega), O2 j hj]
    refine jB (ha2.aO fun j q => o3 j (by rcases q with q | q; have := hD j q; omega; have := ha2.dJ f2 q; omega)) hD g3 vb.ok (vb.s.aO fun j q => o3 j (by have := (vb.sn j q).2; omega)) (fun j q => hDD j (se j q)) sem (lle i) (by omega) f3 ?_
    intro acc' h4 n4 hn4 f4 a4 o4
    simp only [fgr, bor, bR, w1, gE]
    rw [qZ (by omega), ← hG hil, ← qZ (L := L) (p := p) (v := v) (i := i + 1) (by omega)] at a4
    exact hih h4 n4 acc' _ _ _ _ _ _ (by omega) a4 (fun j hj => by rw [o4 j hj, O3 j hj]) (by omega) f4
theorem RI.of {K D : Nat → Prop} {n0 n r : Nat} {h : Hp} {acc : aA} {l : List Ver} (a : Acc D n0 h acc l) (hr : Row h r [acc]) (hD : ∀ j, D j → K j ∧ j ≠ r ∧ j < n0) (hacc : ∀ j, n0 ≤ j → j < n → K j) (rK : K r) (rn : r < n0) (hK : ∀ j, K j → j < n) (hf : bI h n) : RI K h n r l := by
 have lv := fun j => a.dJ hf (j := j)
 obtain ⟨cells, c1, c2, c3⟩ := a
 exact ⟨acc, cells, hr, c1, c2.mono (fun j q => ⟨(hD j q).1, (hD j q).2.1, fun w => by have := c3 j w; have := (hD j q).2.2; omega⟩) (fun j q => rfl), fun j q => ⟨hacc j (c3 j q) (lv j q), fun w => by have := c3 j q; omega⟩, rK, hK⟩
theorem SG {L : List Ver} {v : Ver} {i : Int} (h : AtR L v.aG v.pn v.made i) : (0 ≤ i) ↔ ∃ w ∈ L, cV w v = 0 := by
 rcases h with ⟨rfl, h⟩ | ⟨k, hk, rfl, h⟩
 ·exact ⟨fun q => by omega, fun ⟨w, hw, q⟩ => absurd q (h w hw)⟩
 ·exact ⟨fun _ => ⟨_, List.getElem_mem hk, h⟩, fun _ => by omega⟩
set_option maxHeartbeats 4000000 in
theorem f92 {K : Nat → Prop} {r : Nat} (v : Ver) (sv : aA) (ov : v.Ok) (hsl : v.aE.length ≤ 1000000) {L : List Ver} (rL : dW false L) {h : Hp} {n : Nat} (hs : RI K h n r L) (hb : Bytes h sv v.aE) (hsn : ∀ j, aL sv = some j → j < n) (hc : L.length ≤ 900000) (hf : bI h n) :
  Wp (bO env (aX env) 92 [.ptr r 0, .agg (aH v sv)]) h n fun v' h' n' => (∀ j, j < n → j ≠ r → h' j = h j) ∧ ((oI v L ∧ v' = .int .i64 210 ∧ RI K h' n' r L) ∨ (¬ oI v L ∧ v' = .int .i64 0 ∧ RI (fun j => K j ∨ (n ≤ j ∧ j < n')) h' n' r (lJ L v))) := by
 refine bG af4 YO ?_
 simp only [QF, Try.f92, Option.getD_some, List.replicate, Nat.reduceAdd, Nat.reduceSub, gE]
 have kv := hb.kind
 refine cL (v := .agg (aH v sv)) dZ rfl hf fun H1 r1 o1 f1 => ?_
 replace r1 : Row H1 n (aH v sv) := r1
 have O1 : Old h H1 n := fun j hj => o1 j (by omega)
 have s1 := hs.old (n' := n + 1) (by omega) O1
 simp only [tyr, fgr, aM, gE]
 rw [aF (fL r1 ov)]
 simp only [tyr, aM, gE]
 rw [aF (cO r1 ov)]
 simp only [hkr, gE]
 refine bD f1 (f110 v.aG v.pn v.made ov.h s1 (by omega) f1) fun v2 h2 n2 hn2 f2 ⟨⟨i, e2, at2⟩, o2⟩ => ?_
 subst e2
 have r2 : Row h2 n (aH v sv) := r1.aO (o2 n (by omega))
 have O2 : Old h h2 n := fun j hj => (o2 j (by omega)).trans (O1 j hj)
 have s2 := hs.old (n' := n2) (by omega) O2
 have iff := SG at2
 have bad : oI v L → ((∀ j, j < n → j ≠ r → h2 j = h j) ∧ ((oI v L ∧ RI K h2 n2 r L) ∨ (¬ oI v L ∧ aA.int .i64 210 = .int .i64 0 ∧ RI (fun j => K j ∨ (n ≤ j ∧ j < n2)) h2 n2 r (lJ L v)))) := fun q => ⟨fun j hj _ => O2 j hj, .inl ⟨q, s2⟩⟩
 have eV : qG v = (decide (v.made < 0) || (decide (v.bW ≠ 0) && (decide (v.bW < v.made) || decide (v.bW < 0)))) := rfl
 simp only [tyr, fgr, aM, gE]
 rw [aF (cO r2 ov)]
 by_cases c1 : v.made < 0
 ·simp only [fgr, bor, aY, c1, gE]
  exact bad (.inl (by rw [eV]; simp; omega))
 simp only [tyr, bor, aM, c1, gE]
 rw [aF (dK r2 ov)]
 by_cases c2 : v.bW < 0
 ·simp only [fgr, bor, aY, c2, gE]
  exact bad (.inl (by rw [eV]; simp; omega))
 simp only [tyr, bor, aY, aM, c2, gE]
 rw [aF (dK r2 ov)]
 by_cases c3 : 0 < v.bW
 case' pos =>
  simp only [tyr, bor, aM, gt_iff_lt, c3, gE]
  rw [aF (dK r2 ov)]
  simp only [tyr, aM, gE]
  rw [aF (cO r2 ov)]
  by_cases c4 : v.bW < v.made
  ·simp only [fgr, bor, aY, c4, gE]
   exact bad (.inl (by rw [eV]; simp; omega))
  have hE : ¬ qG v = true := by rw [eV]; simp; omega
  simp only [fgr, bor, aY, ge_iff_le, c4, gE]
 case' neg =>
  have hE : ¬ qG v = true := by rw [eV]; simp; omega
  simp only [fgr, bor, aY, ge_iff_le, gt_iff_lt, c3, gE]
 all_goals
  by_cases c5 : 0 ≤ i
  ·simp only [fgr, c5, gE]
   exact bad (.inr (iff.1 c5))
  simp only [tyr, aM, c5, gE]
  have hP : ¬ oI v L := fun q => q.elim hE fun q => c5 (iff.2 q)
  have hno : ∀ w ∈ L, cV w v ≠ 0 := fun w hw q => hP (.inr ⟨w, hw, q⟩)
  obtain ⟨vl, rr, a0, va, rK, hK⟩ := s2.acc
  obtain ⟨_, _, _, _, _, _, rK0, hK0⟩ := hs
  have rn := hK0 r rK0
  rw [aF (eZ r2 ov)]
  simp only [hkr, gE]
  have b2 : Bytes h2 sv v.aE := hb.aO fun j q => O2 j (hsn j q)
  refine bD f2 (VZ sv v.aE h2 n2 b2 hsl f2) fun v3 h3 n3 hn3 f3 ⟨b3, i3, o3, m3⟩ => ?_
  obtain ⟨e3, g3⟩ : Row h3 n (aH v sv) := r2.aO (o3 n (by omega))
  have k3 := b3.kind
  simp only [tyr, aM, gE]
  rw [eQ (Row.fH (off := 35) g3 jJ (by rw [k3.1]; rfl) (by rw [aW ov.h ov.b]; decide) (by rw [k3.1]; simp [k3.2.1]))]
  rw [k3.1, sC ov.h]
  obtain ⟨h4, hh4⟩ : ∃ H, H = upd h3 n (some (.row (.l (aH v v3)) e3)) := ⟨_, rfl⟩
  have g4 : Row h4 n (aH v v3) := ⟨e3, by rw [hh4, bE]⟩
  have o4 : ∀ j, j ≠ n → h4 j = h3 j := fun j hj => by rw [hh4, aP _ _ hj]
  have f4 : bI h4 n3 := by rw [hh4]; exact f3.upd (by omega)
  rw [← hh4]
  clear hh4
  have O4 : Old h h4 n := fun j hj => by rw [o4 j (by omega), o3 j (by omega), O2 j hj]
  have O24 : ∀ j, K j → h4 j = h2 j := fun j q => by have := hK0 j q; rw [o4 j (by omega), o3 j (by omega)]
  have hp := qY rL v
  simp only [fgr, gE]
  refine PJ _ _ r n n3 (pos false L v) vl v3 v ov L hc (fun j => K j ∧ j ≠ r ∧ aL vl ≠ some j) (fun j => (K j ∧ j ≠ r ∧ aL vl ≠ some j) ∨ aL v3 = some j) h4 (rr.aO (O24 r rK)) g4 (a0.aO fun j q => O24 j (q.elim (fun q => q.1) (fun q => (va j q).1))) hp hno (by omega) (by omega) (fun j q => by have := hK0 j (va j q).1; omega)
   (fun j q => q.elim (fun q => by have := hK0 j q.1; omega) (fun q => (i3 j q).2)) (fun j q => .inl q) (b3.aO fun j q => o4 j (by have := i3 j q; omega)) (fun j q => .inr q) m3 ?_ L.length 0 h4 n3 .aT _ _ _ _ _ _ (by omega) (by rw [qZ (Nat.zero_le _)]; exact Acc.nil) (Old.refl _ _) (Nat.le_refl _) f4
  intro h5 n5 acc x1 x5 x8 x38 x49 x65 x81 a5 o5 hn5 f5
  have hDn : ∀ j, ((K j ∧ j ≠ r ∧ aL vl ≠ some j) ∨ aL v3 = some j) → (K j ∨ (n ≤ j ∧ j < n3)) ∧ j ≠ r ∧ j < n3 := fun j q => q.elim (fun q => ⟨.inl q.1, q.2.1, by have := hK0 j q.1; omega⟩) (fun q => by have := i3 j q; exact ⟨.inr ⟨by omega, by omega⟩, by omega, by omega⟩)
  have gR : ∀ (H : Hp) (N : Nat) (ac : aA), Acc (fun j => (K j ∧ j ≠ r ∧ aL vl ≠ some j) ∨ aL v3 = some j) n3 H ac (lJ L v) → Old h4 H n3 → n3 ≤ N → bI H N → ∃ rs ws H2, Wr (kL env 43 (.ptr r 0) ac) H N rs ws undef H2 ∧ (∀ j, j < n → j ≠ r → H2 j = h j) ∧ RI (fun j => K j ∨ (n ≤ j ∧ j < N)) H2 N r (lJ L v) := fun H N ac a o hN F => by
   obtain ⟨e, g⟩ := (rr.aO (O24 r rK)).aO (o r (by omega))
   have ka := a.kind
   refine ⟨_, _, _, Row.fH (off := 0) g fZ (by rw [ka.1]; rfl) (by show 0 + 1 ≤ 1; omega) (by rw [ka.1]; simp [ka.2.1]), fun j hj hjr => ?_, ?_⟩
   ·rw [aP _ _ hjr, o j (by omega), O4 j hj]
   ·rw [ka.1, show bV [vl] 0 [ac] = [ac] from rfl]
    have hrD : ∀ j, ((K j ∧ j ≠ r ∧ aL vl ≠ some j) ∨ aL v3 = some j) ∨ aL ac = some j → j ≠ r := fun j q w => by
     subst w
     rcases q with q | q
     ·exact (hDn j q).2.1 rfl
     ·obtain ⟨_, _, _, c3⟩ := a
      have := c3 j q
      omega
    exact RI.of (n0 := n3) (a.aO fun j q => aP _ _ (hrD j q)) ⟨e, bE _ _ _⟩ (fun j q => by have := hDn j q; exact ⟨this.1.elim .inl (fun w => .inr ⟨w.1, by omega⟩), this.2⟩) (fun j q1 q2 => .inr ⟨by omega, q2⟩) (.inl rK) (by omega) (fun j q => q.elim (fun q => by have := hK0 j q; omega) (fun q => q.2)) (F.upd (by omega))
  by_cases cp : pos false L v < L.length
  ·have e1 : decide (pos false L v < L.length) = true := decide_eq_true cp
   rw [HM cp] at a5
   obtain ⟨rs, ws, H2, w, d1, d2⟩ := gR h5 n5 acc a5 o5 hn5 f5
   rw [e1]
   simp only [tyr, fgr, unOp, aM, gE]
   rw [eQ w]
   simp only [fgr, gE]
   exact ⟨d1, .inr ⟨hP, d2⟩⟩
  ·have e1 : decide (pos false L v < L.length) = false := decide_eq_false cp
   have hpe : pos false L v = L.length := by have := hp.le; omega
   have g5 : Row h5 n (aH v v3) := g4.aO (o5 n (by omega))
   rw [qZ (by omega), List.take_length] at a5
   rw [e1]
   simp only [fgr, unOp, gE]
   rw [aF (dY g5 ov)]
   simp only [sO (aW ov.h ov.b), gE]
   refine i6 dZ f5 (f := fun id => aA.sl id 0 1 (some 1) 70) fun H6 g6 o6 f6 => ?_
   simp only [builtin, gE]
   refine jB (a5.aO fun j q => o6 j (by rcases q with q | q; have := (hDn j q).2.2; omega; have := a5.dJ f5 q; omega)) (fun j q => (hDn j q).2.2) g6 ov ((b3.aO fun j q => o4 j (by have := i3 j q; omega)).aO fun j q => by rw [o6 j (by have := i3 j q; omega), o5 j (by have := i3 j q; omega)]) (fun j q => .inr q) m3 (by omega) (by omega) f6 ?_
   intro acc' h7 n7 hn7 f7 a7 o7
   have eP : L ++ [v] = lJ L v := by
    unfold lJ fG
    rw [hpe, List.take_length, List.drop_length]
   rw [eP] at a7
   obtain ⟨rs, ws, H2, w, d1, d2⟩ := gR h7 n7 acc' a7 (fun j hj => by rw [o7 j hj, o6 j (by omega), o5 j hj]) (by omega) f7
   simp only [tyr, fgr, aM, gE]
   rw [eQ w]
   simp only [fgr, gE]
   exact ⟨d1, .inr ⟨hP, d2⟩⟩
theorem yE {α : Type} {l : List α} {i j : Nat} {x : α} (hj : j < (l.set i x).length) : (l.set i x)[j] = if i = j then x else l[j]'(by rw [List.length_set] at hj; exact hj) := List.getElem_set hj
theorem Acc.fH {D : Nat → Prop} {n0 n : Nat} {h : Hp} {v : aA} {vs : List Ver} (l : Acc D n0 h v vs) {i : Nat} (hi : i < vs.length) {t : TypeId} {I : TI} (ht : ti env t = M.pure I) {x : aA} {off : Nat} (hx : x.cells.length = I.size) (ho : 35 < off ∧ off + I.size ≤ 70) (h1 : x.cells.all bK = true)
  {w' : Ver} (ok : w'.Ok) (hsc : w'.aE = vs[i].aE) (hsp : ∀ sw, bV (aH vs[i] sw) off x.cells = aH w' sw) (hDv : ∀ j, D j → aL v ≠ some j) :
  ∃ rs ws h2, Wr (kL env t (eM (i * 70 + off) v) x) h n rs ws undef h2 ∧ Acc D n0 h2 v (vs.set i w') ∧ ∀ j, aL v ≠ some j → h2 j = h j := by
 obtain ⟨h35, ho⟩ := ho
 obtain ⟨cells, c1, c2, c3⟩ := l
 obtain ⟨id, cap, cs, rfl, hh, hl, hc, hxc⟩ := c1.inv (by omega)
 have hcl : cells.length = vs.length * 70 := c1.rds.length
 have hw := Row.fH (E := env) (n := n) (off := 0 + (i * 70 + off)) (v := x) hh ht hx (by omega) h1
 rw [Nat.zero_add] at hw
 have hxl : i * 70 + off + x.cells.length ≤ cs.length := by omega
 have hxl2 : i * 70 + off + x.cells.length ≤ cells.length := by omega
 have et : (bV cs (i * 70 + off) x.cells).take (vs.length * 70) = bV cells (i * 70 + off) x.cells := by
  refine List.ext_getElem? fun j => ?_
  rw [iN hxl2, List.getElem?_take, iN hxl]
  have e : cells[j]? = if j < vs.length * 70 then cs[j]? else none := by rw [← hxc, List.getElem?_take]
  rw [e]
  by_cases a : j < vs.length * 70
  ·rw [if_pos a, if_pos a]
  ·rw [if_neg a, if_neg a, if_neg (by omega)]
 have hsl : (bV cells (i * 70 + off) x.cells).length = cells.length := eA hxl2
 have kp : ∀ j, id ≠ j → upd h id (some (.row (.l (bV cs (i * 70 + off) x.cells)) 31)) j = h j := fun j q => aP _ _ (fun e => q e.symm)
 refine ⟨_, _, _, by rw [show eM (i * 70 + off) (.sl id 0 vs.length cap 70) = .ptr id (i * 70 + off) by simp [eM]]; exact hw, ⟨bV cells (i * 70 + off) x.cells, ?_, ⟨⟨by rw [hsl, List.length_set]; exact hcl, fun j hj => ?_⟩, fun j y hy => ?_⟩, c3⟩, fun j q => kp j (fun e => q (by rw [e]; rfl))⟩
 ·rw [List.length_set]
  exact .sl id _ cap _ _ (bE _ _ _) (by rw [eA hxl]; exact hl) (fun k q => by rw [eA hxl]; exact hc k q) et
 ·rw [List.length_set] at hj
  obtain ⟨sv, e, bb, o, d⟩ := c2.at_ j hj
  have bb' : Bytes (upd h id (some (.row (.l (bV cs (i * 70 + off) x.cells)) 31))) sv vs[j].aE := bb.aO fun k q => kp k (fun e => hDv k (d k q) (by rw [e]; rfl))
  have pc : ∀ k, k < 70 → cells[j * 70 + k]? = (aH vs[j] sv)[k]? := fun k hk => AE e hk
  rw [yE (by rw [List.length_set]; exact hj)]
  by_cases c : i = j
  ·subst c
   rw [if_pos rfl]
   refine ⟨sv, ?_, by rw [hsc]; exact bb', ok, d⟩
   have hvl : (aH vs[i] sv).length = 70 := aW o.h o.b
   rw [← hsp sv]
   refine List.ext_getElem? fun k => ?_
   rw [List.getElem?_take, List.getElem?_drop, iN hxl2, iN (by omega)]
   by_cases a : k < 70
   ·rw [if_pos a, pc k a]
    by_cases b : off ≤ k ∧ k < off + x.cells.length
    ·rw [if_pos b, if_pos (by omega), show i * 70 + k - (i * 70 + off) = k - off by omega]
    ·rw [if_neg b, if_neg (by omega)]
   ·rw [if_neg a, if_neg (by omega), List.getElem?_eq_none (by omega)]
  ·rw [if_neg c]
   refine ⟨sv, ?_, bb', o, d⟩
   rw [← e]
   refine List.ext_getElem? fun k => ?_
   rw [List.getElem?_take, List.getElem?_take, List.getElem?_drop, List.getElem?_drop, iN hxl2]
   by_cases a : k < 70
   ·rw [if_pos a, if_pos a, if_neg (by omega)]
   ·rw [if_neg a, if_neg a]
 ·rw [iN hxl2, if_neg (by omega)] at hy
  exact c2.mn j y hy
theorem HG {L : List Ver} (r : dW false L) {k : Nat} (hk : k < L.length) : pos false L L[k] = k := by
 have hp : Pos false L L[k] k := ⟨by omega, fun j hj q => r.at_ hj hk q, fun j hj q => by
  by_cases e : k = j
  ·subst e
   have := nR.refl L[k]
   show ¬ cV L[k] L[k] < 0
   omega
  ·have h1 : cV L[k] L[j] < 0 := r.at_ hk hj (by omega)
   have h2 := nR.lI L[k] L[j]
   show ¬ cV L[j] L[k] < 0
   omega⟩
 exact hp.eq.symm
theorem DH {L : List Ver} (r : dW false L) {k : Nat} (hk : k < L.length) {t : Ver} (he : cV L[k] t = 0) {w : Ver} (hw : w ∈ L) (hwt : cV w t = 0) : w = L[k] := by
 obtain ⟨j, hj, rfl⟩ := List.mem_iff_getElem.1 hw
 by_cases q : j = k
 ·subst q; rfl
 ·have e1 : cV L[k] L[j] = 0 := by
   have q1 := nR.eqv _ _ L[j] he
   have q2 := nR.lI L[j] t
   omega
  have e2 := nR.lI L[k] L[j]
  by_cases c : j < k
  ·have q : cV L[j] L[k] < 0 := r.at_ hj hk c
   omega
  ·have q : cV L[k] L[j] < 0 := r.at_ hk hj (by omega)
   omega
theorem am2 : build env 25 [] = M.pure (.agg (z32.map u8)) := rfl
set_option maxHeartbeats 4000000 in
theorem f94 {K : Nat → Prop} {r : Nat} (aG : List UInt8) (pn made : Int) (hl : aG.length = 32) {L : List Ver} (rL : dW false L) {h : Hp} {n : Nat} (hs : RI K h n r L) (hc : L.length ≤ 900000) (hf : bI h n) :
  Wp (bO env (aX env) 94 [.ptr r 0, .agg (aQ aG pn), .int .i64 made]) h n fun v' h' n' => (∀ j, j < n → ¬ K j → h' j = h j) ∧
   (((∀ w ∈ L, cV w (key aG pn made) = 0 → w.bW = 0) ∧ v' = .int .i64 210 ∧ RI K h' n' r L) ∨
   (∃ w ∈ L, cV w (key aG pn made) = 0 ∧ w.bW ≠ 0 ∧ v' = .int .i64 0 ∧ RI K h' n' r (pY L w (iY w 0 z32)))) := by
 refine bG af2 YM ?_
 simp only [QC, Try.f94, Option.getD_some, List.replicate, Nat.reduceAdd, Nat.reduceSub, gE]
 refine cL (v := .agg (aQ aG pn)) gQ rfl hf fun H1 r1 o1 f1 => ?_
 replace r1 : Row H1 n (aQ aG pn) := r1
 have O1 : Old h H1 n := fun j hj => o1 j (by omega)
 have s1 := hs.old (n' := n + 1) (by omega) O1
 simp only [fgr, gE]
 rw [aF (Row.j9 r1 gQ rfl (c9 hl))]
 simp only [hkr, gE]
 refine bD f1 (f110 aG pn made hl s1 (by omega) f1) fun v2 h2 n2 hn2 f2 ⟨⟨i, e2, at2⟩, o2⟩ => ?_
 subst e2
 have O2 : Old h h2 n := fun j hj => (o2 j (by omega)).trans (O1 j hj)
 have s2 := hs.old (n' := n2) (by omega) O2
 rcases at2 with ⟨rfl, hno⟩ | ⟨k, hk, rfl, he⟩
 ·simp only [fgr, bor, aY, Int.reduceLT, Int.reduceNeg, gE]
  exact ⟨fun j hj _ => O2 j hj, .inl ⟨fun w hw q => absurd q (hno w hw), s2⟩⟩
 have ck : ¬ ((k : Nat) : Int) < 0 := by omega
 obtain ⟨vl, rr, a0, va, rK, hK⟩ := s2.acc
 obtain ⟨sw, vt, sd, sdm⟩ := a0.at_ hk (n := n2) (fun j q => hK j q.1)
 simp only [tyr, fgr, bor, aM, ck, gE]
 rw [aF (Row.one (off := 0) rr rfl fZ rfl)]
 simp only [gE]
 rw [aF (a0.idx hk)]
 simp only [tyr, vt.mv, gE]
 rw [aF (vt.bW n2)]
 by_cases c0 : L[k].bW = 0
 ·simp only [fgr, bor, aY, c0, gE]
  exact ⟨fun j hj _ => O2 j hj, .inl ⟨fun w hw q => by rw [DH rL hk he hw q]; exact c0, s2⟩⟩
 simp only [tyr, fgr, bor, aY, aM, c0, gE]
 rw [aF (Row.one (off := 0) rr rfl fZ rfl)]
 simp only [gE]
 rw [aF (a0.idx hk)]
 simp only [tyr, vt.mv, gE]
 have hDv : ∀ j, (K j ∧ j ≠ r ∧ aL vl ≠ some j) → aL vl ≠ some j := fun j q => q.2.2
 obtain ⟨rs3, ws3, h3, w3, a3, p3⟩ := a0.fH (n := n2) hk (t := 3) (I := ty3.i) ti3 (x := .int .i64 0) (off := 37) rfl (by decide) rfl (w' := { L[k] with bW := 0 }) ⟨vt.ok.h, vt.ok.b⟩ rfl (fun sw => jV vt.ok.h 0) hDv
 rw [eQ w3]
 have rv : aL vl ≠ some r := fun q => (va r q).2 rfl
 have rr3 := rr.aO (p3 r rv)
 have hk3 : k < (L.set k { L[k] with bW := 0 }).length := by rw [List.length_set]; exact hk
 have a3k : (L.set k { L[k] with bW := 0 })[k] = { L[k] with bW := 0 } := by rw [yE hk3, if_pos rfl]
 simp only [tyr, fgr, aM, gE]
 rw [aF (Row.one (off := 0) rr3 rfl fZ rfl)]
 simp only [am2, gE]
 rw [aF (a3.idx hk3)]
 simp only [tyr, vt.mv, gE]
 obtain ⟨rs4, ws4, h4, w4, a4, p4⟩ := a3.fH (n := n2) hk3 (t := 25) (I := GG.i) nH (x := .agg (z32.map u8)) (off := 38) rfl (by decide) rfl (w' := iY L[k] 0 z32) ⟨vt.ok.h, rfl⟩ (by rw [a3k]; rfl) (fun sw => by rw [a3k]; exact mJ (w := { L[k] with bW := 0 }) vt.ok.h vt.ok.b z32 rfl) hDv
 rw [eQ w4]
 simp only [fgr, gE]
 have eS : (L.set k { L[k] with bW := 0 }).set k (iY L[k] 0 z32) = pY L L[k] (iY L[k] 0 z32) := by
  rw [List.set_set]
  unfold pY
  rw [HG rL hk]
 rw [eS] at a4
 have p34 : ∀ j, aL vl ≠ some j → h4 j = h2 j := fun j q => (p4 j q).trans (p3 j q)
 refine ⟨fun j hj nk => by rw [p34 j (fun q => nk (va j q).1), O2 j hj], .inr ⟨_, List.getElem_mem hk, he, c0, ?_⟩⟩
 obtain ⟨cells, c1, c2, c3⟩ := a4
 exact ⟨vl, cells, rr.aO (p34 r rv), c1, c2, va, rK, hK⟩
set_option maxHeartbeats 4000000 in
theorem f93 {K : Nat → Prop} {r : Nat} (aG : List UInt8) (pn made s : Int) (b : List UInt8) (hl : aG.length = 32) (hbl : b.length = 32) {L : List Ver} (rL : dW false L) {h : Hp} {n : Nat} (hs : RI K h n r L) (hc : L.length ≤ 900000) (hf : bI h n) :
  Wp (bO env (aX env) 93 [.ptr r 0, .agg (aQ aG pn), .int .i64 made, .int .i64 s, .agg (b.map u8)]) h n fun v' h' n' => (∀ j, j < n → ¬ K j → h' j = h j) ∧
   (((∀ w ∈ L, cV w (key aG pn made) = 0 → (w.bW ≠ 0 ∨ s < 1 ∨ s < made)) ∧ v' = .int .i64 210 ∧ RI K h' n' r L) ∨
   (∃ w ∈ L, cV w (key aG pn made) = 0 ∧ w.bW = 0 ∧ 1 ≤ s ∧ made ≤ s ∧ v' = .int .i64 0 ∧ RI K h' n' r (pY L w (iY w s b)))) := by
 refine bG af3 YN ?_
 simp only [QD, Try.f93, Option.getD_some, List.replicate, Nat.reduceAdd, Nat.reduceSub, gE]
 refine cL (v := .agg (aQ aG pn)) gQ rfl hf fun H1 r1 o1 f1 => ?_
 replace r1 : Row H1 n (aQ aG pn) := r1
 simp only [gE]
 refine cL (v := .agg (b.map u8)) nH rfl f1 fun Hb rb ob fb => ?_
 replace rb : Row Hb (n + 1) (b.map u8) := rb
 have r1 := r1.aO (ob n (by omega))
 have O1 : Old h Hb n := fun j hj => by rw [ob j (by omega), o1 j (by omega)]
 have s1 := hs.old (n' := n + 1 + 1) (by omega) O1
 have bl : (b.map u8).length = 32 := by rw [List.length_map]; exact hbl
 have b1 : (b.map u8).all bK = true := by rw [List.all_map]; simp [u8, bK]
 simp only [fgr, gE]
 rw [aF (Row.j9 r1 gQ rfl (c9 hl))]
 simp only [hkr, gE]
 refine bD fb (f110 aG pn made hl s1 (by omega) fb) fun v2 h2 n2 hn2 f2 ⟨⟨i, e2, at2⟩, o2⟩ => ?_
 subst e2
 have O2 : Old h h2 n := fun j hj => (o2 j (by omega)).trans (O1 j hj)
 have rb2 : Row h2 (n + 1) (b.map u8) := rb.aO (o2 _ (by omega))
 have s2 := hs.old (n' := n2) (by omega) O2
 rcases at2 with ⟨rfl, hno⟩ | ⟨k, hk, rfl, he⟩
 ·simp only [fgr, bor, aY, Int.reduceLT, Int.reduceNeg, gE]
  exact ⟨fun j hj _ => O2 j hj, .inl ⟨fun w hw q => absurd q (hno w hw), s2⟩⟩
 have ck : ¬ ((k : Nat) : Int) < 0 := by omega
 have hK0 : ∀ j, K j → j < n := by obtain ⟨_, _, _, _, _, _, _, q⟩ := hs; exact q
 obtain ⟨vl, rr, a0, va, rK, hK⟩ := s2.acc
 obtain ⟨sw, vt, sd, sdm⟩ := a0.at_ hk (n := n2) (fun j q => hK j q.1)
 have bad : (L[k].bW ≠ 0 ∨ s < 1 ∨ s < made) → ∀ w ∈ L, cV w (key aG pn made) = 0 → (w.bW ≠ 0 ∨ s < 1 ∨ s < made) := fun q w hw e => by
  rw [DH rL hk he hw e]; exact q
 simp only [tyr, fgr, bor, aM, ck, gE]
 rw [aF (Row.one (off := 0) rr rfl fZ rfl)]
 simp only [gE]
 rw [aF (a0.idx hk)]
 simp only [tyr, vt.mv, gE]
 rw [aF (vt.bW n2)]
 by_cases c0 : L[k].bW = 0
 case neg =>
  simp only [fgr, bor, aY, c0, gE]
  exact ⟨fun j hj _ => O2 j hj, .inl ⟨bad (.inl c0), s2⟩⟩
 by_cases c1 : s < 1
 ·simp only [fgr, bor, aY, c0, c1, gE]
  exact ⟨fun j hj _ => O2 j hj, .inl ⟨fun w hw q => .inr (.inl trivial), s2⟩⟩
 by_cases c2 : s < made
 ·simp only [fgr, bor, aY, c0, c1, c2, gE]
  exact ⟨fun j hj _ => O2 j hj, .inl ⟨fun w hw q => .inr (.inr trivial), s2⟩⟩
 simp only [tyr, fgr, bor, aY, aM, c0, c1, c2, gE]
 rw [aF (Row.one (off := 0) rr rfl fZ rfl)]
 simp only [gE]
 rw [aF (a0.idx hk)]
 simp only [tyr, vt.mv, gE]
 have hDv : ∀ j, (K j ∧ j ≠ r ∧ aL vl ≠ some j) → aL vl ≠ some j := fun j q => q.2.2
 obtain ⟨rs3, ws3, h3, w3, a3, p3⟩ := a0.fH (n := n2) hk (t := 3) (I := ty3.i) ti3 (x := .int .i64 s) (off := 37) rfl (by decide) rfl (w' := { L[k] with bW := s }) ⟨vt.ok.h, vt.ok.b⟩ rfl (fun sw => jV vt.ok.h s) hDv
 rw [eQ w3]
 have rv : aL vl ≠ some r := fun q => (va r q).2 rfl
 have rr3 := rr.aO (p3 r rv)
 have rb3 := rb2.aO (p3 (n + 1) (fun q => by have := hK0 _ (va _ q).1; omega))
 have hk3 : k < (L.set k { L[k] with bW := s }).length := by rw [List.length_set]; exact hk
 have a3k : (L.set k { L[k] with bW := s })[k] = { L[k] with bW := s } := by rw [yE hk3, if_pos rfl]
 simp only [cC, fgr, cE, aN]
 refine bY ⟨rfl, ?_⟩
 simp only [tyr, aM, Nat.reduceAdd, gE]
 rw [aR (Row.one (off := 0) rr3 rfl fZ rfl)]
 simp only [Nat.reduceAdd, gE]
 rw [aR (Row.j9 rb3 nH rfl bl)]
 simp only [Nat.reduceAdd, gE]
 rw [aR (a3.idx hk3)]
 simp only [tyr, Nat.reduceAdd, vt.mv, gE]
 obtain ⟨rs4, ws4, h4, w4, a4, p4⟩ := a3.fH (n := n2) hk3 (t := 25) (I := GG.i) nH (x := .agg (b.map u8)) (off := 38) bl (by decide) b1 (w' := iY L[k] s b) ⟨vt.ok.h, hbl⟩ (by rw [a3k]; rfl) (fun sw => by rw [a3k]; exact mJ (w := { L[k] with bW := s }) vt.ok.h vt.ok.b b hbl) hDv
 refine mS w4 ?_
 simp only [fgr, Nat.reduceAdd, gE]
 refine ⟨(by (try simp (disch := first | assumption | omega) only [dX, gF]); repeat' (first | rfl | exact (Bool.or_eq_true _ _).mpr (.inr rfl) | refine (Bool.and_eq_true _ _).mpr ⟨?_, ?_⟩)), ?_⟩
 have eS : (L.set k { L[k] with bW := s }).set k (iY L[k] s b) = pY L L[k] (iY L[k] s b) := by
  rw [List.set_set]
  unfold pY
  rw [HG rL hk]
 rw [eS] at a4
 have p34 : ∀ j, aL vl ≠ some j → h4 j = h2 j := fun j q => (p4 j q).trans (p3 j q)
 refine ⟨fun j hj nk => by rw [p34 j (fun q => nk (va j q).1), O2 j hj], .inr ⟨_, List.getElem_mem hk, he, c0, by omega, by omega, ?_⟩⟩
 obtain ⟨cells, d1, d2, d3⟩ := a4
 exact ⟨vl, cells, rr.aO (p34 r rv), d1, d2, va, rK, hK⟩
def pH (L : List Ver) (k i : Nat) : List Ver := match decide (k < i) with
 | true => gM (L.take i) k
 | false => L.take i
theorem tK {L : List Ver} {k i : Nat} (h : i ≤ k) : pH L k i = L.take i := by
 unfold pH
 rw [decide_eq_false (by omega)]
theorem LO {L : List Ver} {k : Nat} (h : k < L.length) : pH L k (k + 1) = L.take k := by
 unfold pH gM
 rw [decide_eq_true (by omega)]
 simp only
 rw [List.take_take, Nat.min_eq_left (by omega), List.drop_of_length_le (by rw [List.length_take]; omega), List.append_nil]
theorem LN {L : List Ver} {k i : Nat} (h : k < i) (hi : i < L.length) : pH L k (i + 1) = pH L k i ++ [L[i]] := by
 unfold pH gM
 rw [decide_eq_true (by omega), decide_eq_true h]
 simp only
 rw [hG hi, List.take_append_of_le_length (by rw [List.length_take]; omega), List.drop_append_of_le_length (by rw [List.length_take]; omega), List.append_assoc]
theorem HN (L : List Ver) (k i : Nat) : (pH L k i).length ≤ L.length := by
 unfold pH gM
 split <;> simp only [List.length_append, List.length_take, List.length_drop] <;> omega
theorem HO {L : List Ver} {k : Nat} (h : k < L.length) : pH L k L.length = gM L k := by
 unfold pH
 rw [decide_eq_true h, List.take_length]
set_option maxHeartbeats 4000000 in
theorem PI (Q : dM) (ks : List Kf) (r n0 k : Nat) (vl : aA) (L : List Ver) (hc : L.length ≤ 900000) (D0 : Nat → Prop) (h0 : Hp) (r0 : Row h0 r [vl]) (l0 : Acc D0 0 h0 vl L)
  (hr : r < n0) (hvl : ∀ j, aL vl = some j → j < n0) (hD : ∀ j, D0 j → j < n0)
  (hT : ∀ (h : Hp) (n : Nat) (acc : aA) (x1 x2 x4 x7 x9 x15 x22 x27 : aA), Acc D0 n0 h acc (pH L k L.length) → Old h0 h n0 → n0 ≤ n → bI h n → dR env 95 none Q ks (.exit 0) (.ptr r 0 :: x1 :: x2 :: aA.aB :: x4 :: aA.aB :: .int .i64 0 :: x7 :: acc :: x9 :: aA.aB :: aA.aB :: aA.aB :: aA.aB :: aA.aB :: x15 :: aA.aB :: aA.aB :: aA.aB :: aA.aB :: aA.aB :: aA.aB :: x22 :: aA.aB :: aA.aB :: aA.aB :: aA.aB :: x27 :: aA.aB :: aA.aB :: aA.aB :: aA.aB :: aA.aB :: aA.aB :: aA.aB :: aA.aB :: aA.aB :: aA.aB :: aA.aB :: aA.aB :: aA.aB :: aA.aB :: []) h n) :
  ∀ (m i : Nat) (h : Hp) (n : Nat) (acc : aA) (x1 x2 x4 x15 x22 x27 : aA), i + m = L.length → Acc D0 n0 h acc (pH L k i) → Old h0 h n0 → n0 ≤ n → bI h n →
   Run env 95 none Q (.loop C9) ks (.ptr r 0 :: x1 :: x2 :: aA.aB :: x4 :: aA.aB :: .int .i64 0 :: .int .i64 (k : Nat) :: acc :: .int .i64 (i : Nat) :: aA.aB :: aA.aB :: aA.aB :: aA.aB :: aA.aB :: x15 :: aA.aB :: aA.aB :: aA.aB :: aA.aB :: aA.aB :: aA.aB :: x22 :: aA.aB :: aA.aB :: aA.aB :: aA.aB :: x27 :: aA.aB :: aA.aB :: aA.aB :: aA.aB :: aA.aB :: aA.aB :: aA.aB :: aA.aB :: aA.aB :: aA.aB :: aA.aB :: aA.aB :: aA.aB :: aA.aB :: []) h n := by
 intro m
 induction m with
 | zero =>
  intro i h n acc x1 x2 x4 x15 x22 x27 hm ha ho hn hf
  have : i = L.length := by omega
  subst this
  have hcc : ¬ ((L.length : Nat) : Int) < ((L.length : Nat) : Int) := by omega
  have rr := r0.aO (ho r hr)
  have l := l0.aO (h' := h) fun j q => ho j (q.elim (hD j) (hvl j))
  rw [bP]
  simp only [C9, bC, Try.f95, Option.getD_some, tyr, aM, List.getD_cons_zero, gE]
  rw [aF (Row.one (off := 0) rr rfl fZ rfl)]
  simp only [fgr, builtin, bor, l.len, hcc, gE]
  exact hT h n acc _ _ _ _ _ _ _ _ ha ho hn hf
 | succ m ih =>
  intro i h n acc x1 x2 x4 x15 x22 x27 hm ha ho hn hf
  have hil : i < L.length := by omega
  have hcc : (((i : Nat) : Int) < ((L.length : Nat) : Int)) := by omega
  have w1 : IntKind.i64.wrap (((i : Nat) : Int) + 1) = ((i + 1 : Nat) : Int) := by rw [w64 (by omega) (by omega)]; omega
  have rr := r0.aO (ho r hr)
  have l := l0.aO (h' := h) fun j q => ho j (q.elim (hD j) (hvl j))
  obtain ⟨sx, va, sd, sdm⟩ := l.at_ hil (n := n0) hD
  rw [bP]
  simp only [C9, bC, Try.f95, Option.getD_some, tyr, aM, List.getD_cons_zero, gE]
  rw [aF (Row.one (off := 0) rr rfl fZ rfl)]
  by_cases c : i = k
  ·subst c
   simp only [fgr, builtin, bor, bR, l.len, hcc, w1, gE]
   rw [tK (Nat.le_refl _), ← LO hil] at ha
   exact ih (i + 1) h n acc _ _ _ _ _ _ (by omega) ha ho hn hf
  ·have ci : ¬ ((i : Nat) : Int) = ((k : Nat) : Int) := by omega
   simp only [tyr, fgr, builtin, bor, aM, l.len, hcc, ci, gE]
   rw [aF (Row.one (off := 0) rr rfl fZ rfl)]
   simp only [gE]
   rw [aF (l.idx hil)]
   simp only [gE]
   rw [aF (va.all n)]
   simp only [sO (aW va.ok.h va.ok.b), gE]
   refine i6 dZ hf (f := fun id => aA.sl id 0 1 (some 1) 70) fun H3 g3 o3 f3 => ?_
   simp only [builtin, gE]
   refine jB (ha.aO fun j q => o3 j (by rcases q with q | q; have := hD j q; omega; have := ha.dJ hf q; omega)) hD g3 va.ok (va.s.aO fun j q => o3 j (by have := (va.sn j q).2; omega)) sd sdm (by have := HN L k i; omega) (by omega) f3 ?_
   intro acc' h4 n4 hn4 f4 a4 o4
   have e4 : pH L k i ++ [L[i]] = pH L k (i + 1) := by
    by_cases q : k < i
    ·rw [LN q hil]
    ·rw [tK (by omega), tK (by omega), hG hil]
   rw [e4] at a4
   simp only [fgr, bor, bR, w1, gE]
   exact ih (i + 1) h4 n4 acc' _ _ _ _ _ _ (by omega) a4 (fun j hj => by rw [o4 j hj, o3 j (by omega), ho j hj]) (by omega) f4
set_option maxHeartbeats 4000000 in
theorem f95 {K : Nat → Prop} {r : Nat} (aG : List UInt8) (pn made : Int) (hl : aG.length = 32) {L : List Ver} (rL : dW false L) {h : Hp} {n : Nat} (hs : RI K h n r L) (hc : L.length ≤ 900000) (hf : bI h n) :
  Wp (bO env (aX env) 95 [.ptr r 0, .agg (aQ aG pn), .int .i64 made]) h n fun v' h' n' => (∀ j, j < n → j ≠ r → h' j = h j) ∧
   (((∀ w ∈ L, cV w (key aG pn made) ≠ 0) ∧ v' = .int .i64 210 ∧ RI K h' n' r L) ∨
   (∃ w ∈ L, cV w (key aG pn made) = 0 ∧ v' = .int .i64 0 ∧ RI (fun j => K j ∨ (n ≤ j ∧ j < n')) h' n' r (iZ L w))) := by
 refine bG af1 YL ?_
 simp only [QB, Try.f95, Option.getD_some, List.replicate, Nat.reduceAdd, Nat.reduceSub, gE]
 refine cL (v := .agg (aQ aG pn)) gQ rfl hf fun H1 r1 o1 f1 => ?_
 replace r1 : Row H1 n (aQ aG pn) := r1
 have O1 : Old h H1 n := fun j hj => o1 j (by omega)
 have s1 := hs.old (n' := n + 1) (by omega) O1
 simp only [fgr, gE]
 rw [aF (Row.j9 r1 gQ rfl (c9 hl))]
 simp only [hkr, gE]
 refine bD f1 (f110 aG pn made hl s1 (by omega) f1) fun v2 h2 n2 hn2 f2 ⟨⟨i, e2, at2⟩, o2⟩ => ?_
 subst e2
 have O2 : Old h h2 n := fun j hj => (o2 j (by omega)).trans (O1 j hj)
 have s2 := hs.old (n' := n2) (by omega) O2
 rcases at2 with ⟨rfl, hno⟩ | ⟨k, hk, rfl, he⟩
 ·simp only [fgr, bor, Int.reduceLT, Int.reduceNeg, gE]
  exact ⟨fun j hj _ => O2 j hj, .inl ⟨hno, s2⟩⟩
 have ck : ¬ ((k : Nat) : Int) < 0 := by omega
 have hK0 : ∀ j, K j → j < n := by obtain ⟨_, _, _, _, _, _, _, q⟩ := hs; exact q
 obtain ⟨vl, rr, a0, va, rK, hK⟩ := s2.acc
 have rn := hK0 r rK
 simp only [fgr, bor, ck, gE]
 refine PI _ _ r n2 k vl L hc (fun j => K j ∧ j ≠ r ∧ aL vl ≠ some j) h2 rr a0 (by omega) (fun j q => by have := hK0 j (va j q).1; omega) (fun j q => by have := hK0 j q.1; omega) ?_ L.length 0 h2 n2 .aT _ _ _ _ _ _ (by omega) (by rw [tK (Nat.zero_le _)]; exact Acc.nil) (Old.refl _ _) (Nat.le_refl _) f2
 intro h5 n5 acc x1 x2 x4 x7 x9 x15 x22 x27 a5 o5 hn5 f5
 have eD : pH L k L.length = iZ L L[k] := by
  rw [HO hk]
  unfold iZ
  rw [HG rL hk]
 rw [eD] at a5
 obtain ⟨e, g⟩ := rr.aO (o5 r (by omega))
 have ka := a5.kind
 simp only [tyr, aM, gE]
 rw [eQ (Row.fH (off := 0) g fZ (by rw [ka.1]; rfl) (by show 0 + 1 ≤ 1; omega) (by rw [ka.1]; simp [ka.2.1]))]
 rw [ka.1, show bV [vl] 0 [acc] = [acc] from rfl]
 simp only [fgr, gE]
 have hrA : aL acc ≠ some r := fun q => by
  obtain ⟨_, _, _, c3⟩ := a5
  have := c3 r q
  omega
 refine ⟨fun j hj hjr => by rw [aP _ _ hjr, o5 j (by omega), O2 j hj], .inr ⟨_, List.getElem_mem hk, he, ?_⟩⟩
 exact RI.of (n0 := n2) (a5.aO fun j q => aP _ _ (fun w => by subst w; exact q.elim (fun q => q.2.1 rfl) (fun q => hrA q))) ⟨e, bE _ _ _⟩ (fun j q => ⟨.inl q.1, q.2.1, by have := hK0 j q.1; omega⟩) (fun j q1 q2 => .inr ⟨by omega, q2⟩) (.inl rK) (by omega) (fun j q => q.elim (fun q => by have := hK0 j q; omega) (fun q => q.2)) (f5.upd (by omega))
theorem Acc.vl {D : Nat → Prop} {n0 n : Nat} {h : Hp} {v : aA} {l : List Ver} (a : Acc D n0 h v l) (hD : ∀ j, D j → j < n0) (hn : n0 ≤ n) (hf : bI h n) : VL h 0 n v l := by
 have lv := fun j => a.dJ hf (j := j)
 obtain ⟨cells, c1, c2, c3⟩ := a
 exact ⟨cells, c1, c2.mono (fun j q => ⟨Nat.zero_le _, by have := hD j q; omega, fun w => by have := c3 j w; have := hD j q; omega⟩) (fun j q => rfl), fun j q => ⟨Nat.zero_le _, lv j q⟩⟩
theorem Acc.sub {D D' : Nat → Prop} {n0 n1 : Nat} {h : Hp} {v : aA} {l : List Ver} (a : Acc D n0 h v l) (hD : ∀ j, D j → D' j) (hn : n1 ≤ n0) : Acc D' n1 h v l := by
 obtain ⟨cells, c1, c2, c3⟩ := a
 exact ⟨cells, c1, c2.mono hD (fun j q => rfl), fun j q => by have := c3 j q; omega⟩
theorem oG {L : List Ver} {i : Nat} (hi : i < L.length) (p : Ver → Bool) : (L.take (i + 1)).filter p = (L.take i).filter p ++ (match p L[i] with | true => [L[i]] | false => []) := by
 rw [hG hi, List.filter_append]
 cases e : p L[i] <;> simp [e]
theorem qF (L : List Ver) (i : Nat) (p : Ver → Bool) : ((L.take i).filter p).length ≤ L.length := by
 have h1 := List.length_filter_le p (L.take i)
 have h2 : (L.take i).length ≤ L.length := by rw [List.length_take]; omega
 omega
set_option maxHeartbeats 4000000 in
theorem PO (Q : dM) (ks : List Kf) (r n0 : Nat) (z : Int) (vl : aA) (L : List Ver) (hc : L.length ≤ 900000) (D0 : Nat → Prop) (h0 : Hp) (r0 : Row h0 r [vl]) (l0 : Acc D0 0 h0 vl L)
  (hr : r < n0) (hvl : ∀ j, aL vl = some j → j < n0) (hD : ∀ j, D0 j → j < n0)
  (hT : ∀ (h : Hp) (n : Nat) (acc : aA) (x0 x1 x6 x7 x14 x26 : aA), Acc D0 n0 h acc (L.filter fun v => dC v z) → Old h0 h n0 → n0 ≤ n → bI h n → dR env 52 none Q ks (.exit 0) (x0 :: x1 :: aA.aB :: aA.aB :: .aT :: acc :: x6 :: x7 :: aA.aB :: aA.aB :: aA.aB :: aA.aB :: aA.aB :: aA.aB :: x14 :: aA.aB :: aA.aB :: aA.aB :: aA.aB :: aA.aB :: aA.aB :: aA.aB :: aA.aB :: aA.aB :: aA.aB :: aA.aB :: x26 :: aA.aB :: aA.aB :: aA.aB :: aA.aB :: aA.aB :: aA.aB :: aA.aB :: aA.aB :: aA.aB :: aA.aB :: aA.aB :: []) h n) :
  ∀ (m i : Nat) (h : Hp) (n : Nat) (acc : aA) (x7 x14 x26 : aA), i + m = L.length → Acc D0 n0 h acc ((L.take i).filter fun v => dC v z) → Old h0 h n0 → n0 ≤ n → bI h n →
   Run env 52 none Q (.loop CJ) ks (.ptr r 0 :: .int .i64 z :: aA.aB :: aA.aB :: .aT :: acc :: .int .i64 (i : Nat) :: x7 :: aA.aB :: aA.aB :: aA.aB :: aA.aB :: aA.aB :: aA.aB :: x14 :: aA.aB :: aA.aB :: aA.aB :: aA.aB :: aA.aB :: aA.aB :: aA.aB :: aA.aB :: aA.aB :: aA.aB :: aA.aB :: x26 :: aA.aB :: aA.aB :: aA.aB :: aA.aB :: aA.aB :: aA.aB :: aA.aB :: aA.aB :: aA.aB :: aA.aB :: aA.aB :: []) h n := by
 intro m
 induction m with
 | zero =>
  intro i h n acc x7 x14 x26 hm ha ho hn hf
  have : i = L.length := by omega
  subst this
  have hcc : ¬ ((L.length : Nat) : Int) < ((L.length : Nat) : Int) := by omega
  have rr := r0.aO (ho r hr)
  have l := l0.aO (h' := h) fun j q => ho j (q.elim (hD j) (hvl j))
  rw [List.take_length] at ha
  rw [bP]
  simp only [CJ, bC, Try.f52, Option.getD_some, tyr, aM, List.getD_cons_zero, gE]
  rw [aF (Row.one (off := 0) rr rfl fZ rfl)]
  simp only [fgr, builtin, bor, l.len, hcc, gE]
  exact hT h n acc _ _ _ _ _ _ ha ho hn hf
 | succ m ih =>
  intro i h n acc x7 x14 x26 hm ha ho hn hf
  have hil : i < L.length := by omega
  have hcc : (((i : Nat) : Int) < ((L.length : Nat) : Int)) := by omega
  have w1 : IntKind.i64.wrap (((i : Nat) : Int) + 1) = ((i + 1 : Nat) : Int) := by rw [w64 (by omega) (by omega)]; omega
  have rr := r0.aO (ho r hr)
  have kp : ∀ (H : Hp), Old h0 H n0 → Acc D0 0 H vl L := fun H hO => l0.aO fun j q => hO j (q.elim (hD j) (hvl j))
  have l := kp h ho
  have hs := oG hil (fun v => dC v z)
  obtain ⟨sx, va, sd, sm⟩ := l.at_ hil (n := n0) hD
  rw [bP]
  simp only [CJ, bC, Try.f52, Option.getD_some, tyr, aM, List.getD_cons_zero, gE]
  rw [aF (Row.one (off := 0) rr rfl fZ rfl)]
  simp only [tyr, fgr, builtin, bor, aM, l.len, hcc, gE]
  rw [aF (Row.one (off := 0) rr rfl fZ rfl)]
  simp only [gE]
  rw [aF (l.idx hil)]
  simp only [gE]
  rw [aF (va.all n)]
  simp only [hkr, gE]
  refine bD hf (f46 L[i] sx va.ok z h n hf) fun v2 h2 n2 hn2 f2 ⟨e2, o2⟩ => ?_
  subst e2
  have O2 : Old h0 h2 n0 := fun j hj => by rw [o2 j (by omega), ho j hj]
  have ha2 := ha.old (n := n) (fun j q => by have := hD j q; omega) hf o2
  have rr2 := r0.aO (O2 r hr)
  have l2 := kp h2 O2
  obtain ⟨sy, vb, se, sn⟩ := l2.at_ hil (n := n0) hD
  cases c : dC L[i] z with
  | false =>
   rw [c] at hs
   simp only [List.append_nil] at hs
   rw [← hs] at ha2
   simp only [fgr, bor, bR, w1, gE]
   exact ih (i + 1) h2 n2 acc _ _ _ (by omega) ha2 O2 (by omega) f2
  | true =>
   rw [c] at hs
   simp only [tyr, fgr, aM, gE]
   rw [aF (Row.one (off := 0) rr2 rfl fZ rfl)]
   simp only [gE]
   rw [aF (l2.idx hil)]
   simp only [gE]
   rw [aF (vb.all n2)]
   simp only [sO (aW vb.ok.h vb.ok.b), gE]
   refine i6 dZ f2 (f := fun id => aA.sl id 0 1 (some 1) 70) fun H3 g3 o3 f3 => ?_
   simp only [builtin, gE]
   refine jB (ha2.aO fun j q => o3 j (by rcases q with q | q; have := hD j q; omega; have := ha2.dJ f2 q; omega)) hD g3 vb.ok (vb.s.aO fun j q => o3 j (by have := (vb.sn j q).2; omega)) se sn (by have := qF L i (fun v => dC v z); omega) (by omega) f3 ?_
   intro acc' h4 n4 hn4 f4 a4 o4
   simp only at hs
   rw [← hs] at a4
   simp only [fgr, bor, bR, w1, gE]
   exact ih (i + 1) h4 n4 acc' _ _ _ (by omega) a4 (fun j hj => by rw [o4 j hj, o3 j (by omega), O2 j hj]) (by omega) f4
theorem f52 {K : Nat → Prop} {r : Nat} (z : Int) {L : List Ver} {h : Hp} {n : Nat} (hs : RI K h n r L) (hc : L.length ≤ 900000) (hf : bI h n) :
  Wp (bO env (aX env) 52 [.ptr r 0, .int .i64 z]) h n fun v' h' n' => Acc K n h' v' (L.filter fun v => dC v z) ∧ Old h h' n := by
 obtain ⟨vl, rr, a0, va, rK, hK⟩ := hs.acc
 refine bG ah9 ZD ?_
 simp only [R2, Try.f52, Option.getD_some, List.replicate, fgr, Nat.reduceAdd, Nat.reduceSub, gE]
 refine PO _ _ r n z vl L hc (fun j => K j ∧ j ≠ r ∧ aL vl ≠ some j) h rr a0 (hK r rK) (fun j q => hK j (va j q).1) (fun j q => hK j q.1) ?_ L.length 0 h n .aT _ _ _ (by omega) (by rw [List.take_zero]; exact Acc.nil) (Old.refl _ _) (Nat.le_refl _) hf
 intro h2 n2 acc x0 x1 x6 x7 x14 x26 a2 o2 hn2 f2
 simp only [fgr, gE]
 exact ⟨a2.sub (fun j q => q.1) (Nat.le_refl _), o2⟩
set_option maxHeartbeats 4000000 in
theorem PQ (Q : dM) (ks : List Kf) (r b n0 : Nat) (aG : List UInt8) (pn : Int) (hl : aG.length = 32) (vl : aA) (L : List Ver) (hc : L.length ≤ 900000) (D0 : Nat → Prop) (h0 : Hp) (r0 : Row h0 r [vl]) (b0 : Row h0 b (aQ aG pn)) (l0 : Acc D0 0 h0 vl L)
  (hr : r < n0) (hb : b < n0) (hvl : ∀ j, aL vl = some j → j < n0) (hD : ∀ j, D0 j → j < n0)
  (hT : ∀ (h : Hp) (n : Nat) (acc : aA) (x0 x1 x3 x6 x13 x26 : aA), Acc D0 n0 h acc (L.filter (same aG pn)) → Old h0 h n0 → n0 ≤ n → bI h n → dR env 51 none Q ks (.exit 0) (x0 :: x1 :: aA.aB :: x3 :: .aT :: acc :: x6 :: aA.aB :: aA.aB :: aA.aB :: aA.aB :: aA.aB :: aA.aB :: x13 :: aA.aB :: aA.aB :: aA.aB :: aA.aB :: aA.aB :: aA.aB :: aA.aB :: aA.aB :: aA.aB :: aA.aB :: aA.aB :: aA.aB :: x26 :: aA.aB :: aA.aB :: aA.aB :: aA.aB :: aA.aB :: aA.aB :: aA.aB :: aA.aB :: aA.aB :: aA.aB :: aA.aB :: []) h n) :
  ∀ (m i : Nat) (h : Hp) (n : Nat) (acc : aA) (x1 x13 x26 : aA), i + m = L.length → Acc D0 n0 h acc ((L.take i).filter (same aG pn)) → Old h0 h n0 → n0 ≤ n → bI h n →
   Run env 51 none Q (.loop CK) ks (.ptr r 0 :: x1 :: aA.aB :: .ptr b 0 :: .aT :: acc :: .int .i64 (i : Nat) :: aA.aB :: aA.aB :: aA.aB :: aA.aB :: aA.aB :: aA.aB :: x13 :: aA.aB :: aA.aB :: aA.aB :: aA.aB :: aA.aB :: aA.aB :: aA.aB :: aA.aB :: aA.aB :: aA.aB :: aA.aB :: aA.aB :: x26 :: aA.aB :: aA.aB :: aA.aB :: aA.aB :: aA.aB :: aA.aB :: aA.aB :: aA.aB :: aA.aB :: aA.aB :: aA.aB :: []) h n := by
 intro m
 induction m with
 | zero =>
  intro i h n acc x1 x13 x26 hm ha ho hn hf
  have : i = L.length := by omega
  subst this
  have hcc : ¬ ((L.length : Nat) : Int) < ((L.length : Nat) : Int) := by omega
  have rr := r0.aO (ho r hr)
  have l := l0.aO (h' := h) fun j q => ho j (q.elim (hD j) (hvl j))
  rw [List.take_length] at ha
  rw [bP]
  simp only [CK, bC, Try.f51, Option.getD_some, tyr, aM, List.getD_cons_zero, gE]
  rw [aF (Row.one (off := 0) rr rfl fZ rfl)]
  simp only [fgr, builtin, bor, l.len, hcc, gE]
  exact hT h n acc _ _ _ _ _ _ ha ho hn hf
 | succ m ih =>
  intro i h n acc x1 x13 x26 hm ha ho hn hf
  have hil : i < L.length := by omega
  have hcc : (((i : Nat) : Int) < ((L.length : Nat) : Int)) := by omega
  have w1 : IntKind.i64.wrap (((i : Nat) : Int) + 1) = ((i + 1 : Nat) : Int) := by rw [w64 (by omega) (by omega)]; omega
  have rr := r0.aO (ho r hr)
  have bb := b0.aO (ho b hb)
  have kp : ∀ (H : Hp), Old h0 H n0 → Acc D0 0 H vl L := fun H hO => l0.aO fun j q => hO j (q.elim (hD j) (hvl j))
  have l := kp h ho
  have hs := oG hil (same aG pn)
  obtain ⟨sx, va, sd, sm⟩ := l.at_ hil (n := n0) hD
  rw [bP]
  simp only [CK, bC, Try.f51, Option.getD_some, tyr, aM, List.getD_cons_zero, gE]
  rw [aF (Row.one (off := 0) rr rfl fZ rfl)]
  simp only [fgr, builtin, bor, l.len, hcc, gE]
  refine bY ⟨rfl, ?_⟩
  simp only [tyr, aM, Nat.reduceAdd, gE]
  rw [aR (Row.one (off := 0) rr rfl fZ rfl)]
  simp only [Nat.reduceAdd, gE]
  rw [aR (l.idx hil)]
  simp only [tyr, Nat.reduceAdd, va.mv, gE]
  rw [aR (va.pt n)]
  simp only [Nat.reduceAdd, gE]
  rw [aR (Row.j9 bb gQ rfl (c9 hl))]
  simp only [hkr, Nat.reduceAdd, gE]
  refine cK hf (f87 L[i].aG aG L[i].pn pn va.ok.h hl h n hf) fun v2 h2 n2 rr2x ww2 hn2 f2 ⟨e2, o2⟩ => ?_
  subst e2
  have O2 : Old h0 h2 n0 := fun j hj => by rw [o2 j (by omega), ho j hj]
  have ha2 := ha.old (n := n) (fun j q => by have := hD j q; omega) hf o2
  have rr2 := r0.aO (O2 r hr)
  have l2 := kp h2 O2
  obtain ⟨sy, vb, se, sn⟩ := l2.at_ hil (n := n0) hD
  by_cases c : lK L[i].aG L[i].pn aG pn = 0
  ·have c1 : same aG pn L[i] = true := lZ.2 c
   rw [c1] at hs
   simp only [tyr, fgr, bor, aM, Nat.reduceAdd, c, gE]
   refine ⟨(by (try simp (disch := first | assumption | omega) only [dX, gF]); repeat' (first | rfl | exact (Bool.or_eq_true _ _).mpr (.inr rfl) | refine (Bool.and_eq_true _ _).mpr ⟨?_, ?_⟩)), ?_⟩
   rw [aF (Row.one (off := 0) rr2 rfl fZ rfl)]
   simp only [gE]
   rw [aF (l2.idx hil)]
   simp only [gE]
   rw [aF (vb.all n2)]
   simp only [sO (aW vb.ok.h vb.ok.b), gE]
   refine i6 dZ f2 (f := fun id => aA.sl id 0 1 (some 1) 70) fun H3 g3 o3 f3 => ?_
   simp only [builtin, gE]
   refine jB (ha2.aO fun j q => o3 j (by rcases q with q | q; have := hD j q; omega; have := ha2.dJ f2 q; omega)) hD g3 vb.ok (vb.s.aO fun j q => o3 j (by have := (vb.sn j q).2; omega)) se sn (by have := qF L i (same aG pn); omega) (by omega) f3 ?_
   intro acc' h4 n4 hn4 f4 a4 o4
   simp only at hs
   rw [← hs] at a4
   simp only [fgr, bor, bR, w1, gE]
   exact ih (i + 1) h4 n4 acc' _ _ _ (by omega) a4 (fun j hj => by rw [o4 j hj, o3 j (by omega), O2 j hj]) (by omega) f4
  ·have c1 : same aG pn L[i] = false := by
    cases e : same aG pn L[i] with
    | false => rfl
    | true => exact absurd (lZ.1 e) c
   rw [c1] at hs
   simp only [List.append_nil] at hs
   rw [← hs] at ha2
   simp only [fgr, bor, bR, Nat.reduceAdd, c, gE]
   refine ⟨(by (try simp (disch := first | assumption | omega) only [dX, gF]); repeat' (first | rfl | exact (Bool.or_eq_true _ _).mpr (.inr rfl) | refine (Bool.and_eq_true _ _).mpr ⟨?_, ?_⟩)), ?_⟩
   simp only [w1]
   exact ih (i + 1) h2 n2 acc _ _ _ (by omega) ha2 O2 (by omega) f2
theorem f51 {K : Nat → Prop} {r : Nat} (aG : List UInt8) (pn : Int) (hl : aG.length = 32) {L : List Ver} {h : Hp} {n : Nat} (hs : RI K h n r L) (hc : L.length ≤ 900000) (hf : bI h n) :
  Wp (bO env (aX env) 51 [.ptr r 0, .agg (aQ aG pn)]) h n fun v' h' n' => Acc K n h' v' (sK L aG pn) ∧ Old h h' n := by
 obtain ⟨vl, rr, a0, va, rK, hK⟩ := hs.acc
 refine bG ai0 ZE ?_
 simp only [R3, Try.f51, Option.getD_some, List.replicate, Nat.reduceAdd, Nat.reduceSub, gE]
 refine cL (v := .agg (aQ aG pn)) gQ rfl hf fun H1 r1 o1 f1 => ?_
 replace r1 : Row H1 n (aQ aG pn) := r1
 have O1 : Old h H1 n := fun j hj => o1 j (by omega)
 have hrn := hK r rK
 simp only [fgr, gE]
 refine PQ _ _ r n (n + 1) aG pn hl vl L hc (fun j => K j ∧ j ≠ r ∧ aL vl ≠ some j) H1 (rr.aO (O1 r hrn)) r1 (a0.aO fun j q => O1 j (q.elim (fun q => hK j q.1) (fun q => hK j (va j q).1))) (by omega) (by omega) (fun j q => by have := hK j (va j q).1; omega) (fun j q => by have := hK j q.1; omega) ?_ L.length 0 H1 (n + 1) .aT _ _ _ (by omega) (by rw [List.take_zero]; exact Acc.nil) (Old.refl _ _) (Nat.le_refl _) f1
 intro h2 n2 acc x0 x1 x3 x6 x13 x26 a2 o2 hn2 f2
 simp only [fgr, gE]
 exact ⟨a2.sub (fun j q => q.1) (by omega), fun j hj => by rw [o2 j (by omega), O1 j hj]⟩
theorem FC {l : List Ver} {p : Ver → Bool} {i : Nat} (hi : i < l.length) (h1 : p l[i] = true) (h2 : ∀ k (hk : k < l.length), i < k → p l[k] = false) : (l.filter p).getLast? = some l[i] := by
 have e : l = l.take i ++ l[i] :: l.drop (i + 1) := by rw [List.getElem_cons_drop, List.take_append_drop]
 have h3 : (l.drop (i + 1)).filter p = [] := by
  rw [List.filter_eq_nil_iff]
  intro a ha
  obtain ⟨k, hk, rfl⟩ := List.mem_iff_getElem.1 ha
  rw [List.length_drop] at hk
  rw [List.getElem_drop, h2 _ (by omega) (by omega)]
  simp
 have h4 : l.filter p = (l.take i).filter p ++ [l[i]] := by
  conv => lhs; rw [e]
  rw [List.filter_append, List.filter_cons, h3, h1]
  rfl
 rw [h4, List.getLast?_append]
 rfl
theorem FD {l : List Ver} {p : Ver → Bool} (h : ∀ k (hk : k < l.length), p l[k] = false) : (l.filter p).getLast? = none := by
 have : l.filter p = [] := by
  rw [List.filter_eq_nil_iff]
  intro a ha
  obtain ⟨k, hk, rfl⟩ := List.mem_iff_getElem.1 ha
  rw [h k hk]; simp
 rw [this]; rfl
theorem KH (L : List Ver) (aG : List UInt8) (pn z : Int) : atV L aG pn z = ((sK L aG pn).filter fun v => dC v z).getLast? := by
 unfold atV sK
 rw [List.filter_filter]
 congr 1
 refine List.filter_congr fun v _ => ?_
 rw [Bool.and_comm]
end Go.Am.Ytlgebaofkolkoaa
