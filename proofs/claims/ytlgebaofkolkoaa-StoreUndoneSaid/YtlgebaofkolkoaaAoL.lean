/- The abstract machine. -/
import Derived.Test.YtlgebaofkolkoaaAoK
set_option linter.unusedSimpArgs false
set_option linter.unusedVariables false
set_option linter.defProp false
namespace Go.Am
open Go Go.RowKit
variable {E : Env} {fn : FuncId} {rnd : Option Nat} {Q : eB} {ks : List Kf} {tm : List a9} {h : Hp} {n : Nat} {ops rest : List Oper} {d : Option Tmp}
def wd (n i : Nat) : Nat := n / 2 ^ (64 * i) % 18446744073709551616
def W (n : Nat) : a9 := .agg [.int .u64 (wd n 0 : Nat), .int .u64 (wd n 1 : Nat), .int .u64 (wd n 2 : Nat), .int .u64 (wd n 3 : Nat)]
def qI (k : IntKind) (h : Hp) (v : a9) (id m : Nat) (f : Nat → Int) : Prop := (∃ cap, v = .sl id 0 m cap 1) ∧ ∃ c e, h id = some (.row c e) ∧ c.size = m ∧ ∀ j, j < m → c.at j = .int k (f j)
theorem qI.ext {k : IntKind} {v : a9} {id m : Nat} {f g : Nat → Int} (hi : qI k h v id m f) (hfg : ∀ j, j < m → f j = g j) : qI k h v id m g := by
 obtain ⟨a, c, e, b1, b2, b3⟩ := hi
 exact ⟨a, c, e, b1, b2, fun j hj => by rw [b3 j hj, hfg j hj]⟩
theorem qI.aT {k : IntKind} {v : a9} {id m : Nat} {f : Nat → Int} {h' : Hp} (hi : qI k h v id m f) (hk : h' id = h id) : qI k h' v id m f := by
 obtain ⟨a, c, e, b1, b2, b3⟩ := hi
 exact ⟨a, c, e, hk.trans b1, b2, b3⟩
theorem qI.len {k : IntKind} {v : a9} {id m : Nat} {f : Nat → Int} (hi : qI k h v id m f) {t e : TypeId} {ts : List TypeId} (ht : und E t = M.pure (.slice e)) : cI E (t :: ts) v = M.pure (.int .i64 (m : Nat)) := by
 obtain ⟨⟨cap, rfl⟩, _⟩ := hi
 simp only [cI, ht, bind_pure, lenOf]
theorem qI.idx {k : IntKind} {v : a9} {id m : Nat} {f : Nat → Int} (hi : qI k h v id m f) {t e : TypeId} (ht : und E t = M.pure (.slice e)) (he : sizeOf E e = M.pure 1) {kk : IntKind} {z : Int} {j : Nat} (hz : z = (j : Nat)) (hj : j < m) {h' : Hp} {n' : Nat} : Rd (indexAddr E t v (.int kk z)) h' n' [] (.ptr id j) := by
 obtain ⟨⟨cap, rfl⟩, _⟩ := hi
 subst hz
 simp only [indexAddr, ht, he, bind_pure, cP, slK, Go.Am.idx, bind_assoc, Nat.beq_refl, Int.toNat_natCast, Nat.zero_add, Nat.mul_one]
 exact Rd.bind (i2 := []) (Rd.ob (by simp; omega)) (Rd.pure _)
theorem qI.load {k : IntKind} {v : a9} {id m : Nat} {f : Nat → Int} (hi : qI k h v id m f) {e : TypeId} {i : TI} (he : ti E e = M.pure i) (ha : eD i.desc = false) {j : Nat} (hj : j < m) : Rd (load E e (.ptr id j)) h n [id] (.int k (f j)) := by
 obtain ⟨_, c, e', b1, b2, b3⟩ := hi
 simp only [Go.Am.load, he, bind_pure, ha, bF, bind_assoc]
 refine Rd.bind (i2 := []) (Rd.get b1) ?_
 simp only [cO, bind_assoc]
 refine Rd.bind (i2 := []) (Rd.ob (cT (by omega))) ?_
 rw [bM.sub_one (by omega), b3 j hj]
 exact Rd.pure _
theorem MK (xs : List a9) (v : a9) : ∀ (i j : Nat), i < xs.length → nth (put xs i v) j .junk = if j = i then v else nth xs j .junk := by
 induction xs with
 | nil => intro i j h; cases h
 | cons a xs ih =>
  intro i j h
  cases i with
  | zero => cases j <;> simp [put, nth]
  | succ i =>
   cases j with
   | zero => simp [put, nth]
   | succ j => simp only [put, nth, ih i j (by simpa using h)]; simp
theorem BM (c : bM) (i j : Nat) (v : a9) (h : i < c.size) : (c.set i v).at j = if j = i then v else c.at j := by
 cases c with
 | l xs => exact MK xs v i j h
 | f n g =>
  simp only [bM.set, bM.at]
  by_cases e : j = i
  ·subst e; simp
  ·rw [jM e, if_neg e]
theorem yY (xs : List a9) (v : a9) : ∀ i, (put xs i v).length = xs.length := by
 induction xs with
 | nil => intro i; rfl
 | cons a xs ih => intro i; cases i <;> simp [put, ih]
theorem xB (c : bM) (i : Nat) (v : a9) : (c.set i v).size = c.size := by
 cases c with
 | l xs => exact yY xs v i
 | f n g => rfl
theorem qI.store {k : IntKind} {v : a9} {id m : Nat} {f : Nat → Int} (hi : qI k h v id m f) {e : TypeId} {i : TI} (he : ti E e = M.pure i) (hs : i.size = 1) {j : Nat} (hj : j < m) {z : Int}
  (hq : ∀ b, qI k (upd h id (some b)) v id m (fun x => if x = j then z else f x) → Ops E fn rnd Q ks ops rest (aC tm d undef) (upd h id (some b)) n) :
  OpV E fn rnd Q ks ops rest d tm (kF E e (.ptr id j) (.int k z)) h n := by
 obtain ⟨a, c, e', b1, b2, b3⟩ := hi
 simp only [kF, Go.Am.store, he, bind_pure, a9.cells, hs, List.length_singleton, show Nat.beq 1 1 = true from rfl, dN, bind_assoc, OpV, eW, b1, Option.some.injEq, exists_eq_left', cO, eL, List.all_cons, List.all_nil, bJ, Bool.and_true, kO, wp_pure, jZ]
 refine ⟨cT (by omega), by simp, hq _ ⟨a, _, e', aU _ _ _, by rw [xB]; exact b2, fun x hx => ?_⟩⟩
 rw [BM _ _ _ _ (by omega)]
 by_cases q : x = j
 ·simp only [if_pos q]
 ·simp only [if_neg q]; exact b3 x hx
def Arr (k : IntKind) (h : Hp) (id m : Nat) (f : Nat → Int) : Prop := ∃ c e, h id = some (.row c e) ∧ c.size = m ∧ ∀ j, j < m → c.at j = .int k (f j)
theorem Arr.ext {k : IntKind} {id m : Nat} {f g : Nat → Int} (hi : Arr k h id m f) (hfg : ∀ j, j < m → f j = g j) : Arr k h id m g := by
 obtain ⟨c, e, b1, b2, b3⟩ := hi
 exact ⟨c, e, b1, b2, fun j hj => by rw [b3 j hj, hfg j hj]⟩
theorem Arr.aT {k : IntKind} {id m : Nat} {f : Nat → Int} {h' : Hp} (hi : Arr k h id m f) (hk : h' id = h id) : Arr k h' id m f := by
 obtain ⟨c, e, b1, b2, b3⟩ := hi
 exact ⟨c, e, hk.trans b1, b2, b3⟩
theorem Arr.upd {k : IntKind} {id m i : Nat} {f : Nat → Int} {b : Option Blk} (hi : Arr k h id m f) (hk : id ≠ i) : Arr k (upd h i b) id m f := hi.aT (aR _ _ hk)
theorem zW {t e : TypeId} {m : Nat} (ht : und E t = M.pure (.array m e)) (he : sizeOf E e = M.pure 1) {kk : IntKind} {z : Int} {j id : Nat} (hz : z = (j : Nat)) (hj : j < m) {h' : Hp} {n' : Nat} : Rd (indexAddr E t (.ptr id 0) (.int kk z)) h' n' [] (.ptr id j) := by
 subst hz
 simp only [indexAddr, ht, he, bind_pure, cP, Go.Am.idx, bind_assoc, Int.toNat_natCast, Nat.mul_one, aO, Nat.zero_add]
 exact Rd.bind (i2 := []) (Rd.ob (by simp; omega)) (Rd.pure _)
theorem Arr.load {k : IntKind} {id m : Nat} {f : Nat → Int} (hi : Arr k h id m f) {e : TypeId} {i : TI} (he : ti E e = M.pure i) (ha : eD i.desc = false) {j : Nat} (hj : j < m) : Rd (load E e (.ptr id j)) h n [id] (.int k (f j)) := by
 obtain ⟨c, e', b1, b2, b3⟩ := hi
 simp only [Go.Am.load, he, bind_pure, ha, bF, bind_assoc]
 refine Rd.bind (i2 := []) (Rd.get b1) ?_
 simp only [cO, bind_assoc]
 refine Rd.bind (i2 := []) (Rd.ob (cT (by omega))) ?_
 rw [bM.sub_one (by omega), b3 j hj]
 exact Rd.pure _
theorem Arr.all {k : IntKind} {id m : Nat} {f : Nat → Int} (hi : Arr k h id m f) {t : TypeId} {i : TI} (he : ti E t = M.pure i) (ha : eD i.desc = true) (hs : i.size = m) : Rd (Go.Am.load E t (.ptr id 0)) h n [id] (.agg ((List.range m).map fun j => .int k (f j))) := by
 obtain ⟨c, e', b1, b2, b3⟩ := hi
 simp only [Go.Am.load, he, bind_pure, ha, bF, bind_assoc, hs]
 refine Rd.bind (i2 := []) (Rd.get b1) ?_
 simp only [cO, bind_assoc]
 refine Rd.bind (i2 := []) (Rd.ob (cT (by omega))) ?_
 have hsub : c.sub 0 m = (List.range m).map fun j => a9.int k (f j) := by
  have := bM.sub_eq (c := c) (off := 0) (l := (List.range m).map fun j => a9.int k (f j)) (by simp; omega) (fun j hj => by
   simp only [List.length_map, List.length_range] at hj
   rw [Nat.zero_add, b3 j hj]; simp)
  simpa using this
 rw [hsub]
 exact Rd.pure _
theorem ES {id e off : Nat} {t : TypeId} {i : TI} {cs : List a9} {x : a9} (hh : h id = some (.row (.l cs) e)) (hc : cs[off]? = some x) (hi : ti E t = M.pure i) (ha : eD i.desc = false) : Rd (Go.Am.load E t (.ptr id off)) h n [id] x := by
 obtain ⟨hl, hx⟩ := List.getElem?_eq_some_iff.1 hc
 simp only [Go.Am.load, hi, bind_pure, ha, bF, bind_assoc]
 refine Rd.bind (i2 := []) (Rd.get hh) ?_
 simp only [cO, bind_assoc]
 refine Rd.bind (i2 := []) (Rd.ob (cT (by show off + 1 ≤ cs.length; omega))) ?_
 rw [bM.sub_one (by show off < cs.length; exact hl), bM.sT hl, hx]
 exact Rd.pure _
structure Wr {α : Type} (m : M α) (h : Hp) (n : Nat) (rs ws : List Nat) (v : α) (h2 : Hp) : Prop where
 r : ∀ s, At s h n → ∃ s' o, m.run s = .ok v s' ∧ s'.heap.get = h2 ∧ s'.next = s.next ∧ s'.orc = none ∧ s'.rds = rs ++ s.rds ∧ s'.wrs = ws ++ s.wrs ∧ s'.obs = o ++ s.obs ∧ o.all id = true
theorem Wr.bind {α β : Type} {m : M α} {f : α → M β} {i1 rs ws : List Nat} {a : α} {b : β} {h2 : Hp} (h1 : Rd m h n i1 a) (hw : Wr (f a) h n rs ws b h2) : Wr (m.bind f) h n (rs ++ i1) ws b h2 := by
 refine ⟨fun s hs => ?_⟩
 obtain ⟨s1, o1, e1, a1, b1, c1, d1, w1, g1, q1⟩ := h1.r s hs
 obtain ⟨s2, o2, e2, a2, b2, c2, d2, w2, g2, q2⟩ := hw.r s1 ⟨by rw [a1, hs.hp], by rw [b1, hs.nx], c1⟩
 exact ⟨s2, o2 ++ o1, by simp only [M.bind, lK, e1, e2], a2, by rw [b2, b1], c2, by rw [d2, d1, List.append_assoc], by rw [w2, w1], by rw [g2, g1, List.append_assoc], by rw [List.all_append, q1, q2]; rfl⟩
theorem Wr.ret {α β : Type} {m : M α} {rs ws : List Nat} {a : α} {w : β} {h2 : Hp} (hw : Wr m h n rs ws a h2) : Wr (m.bind fun _ => M.pure w) h n rs ws w h2 := by
 refine ⟨fun s hs => ?_⟩
 obtain ⟨s1, o1, e1, r⟩ := hw.r s hs
 exact ⟨s1, o1, by simp only [M.bind, lK, e1, M.pure], r⟩
theorem Wr.set {id : Nat} {b0 b : Blk} (hg : h id = some b0) : Wr (jF id b) h n [] [id] () (Go.Am.upd h id (some b)) := by
 refine ⟨fun s hs => ⟨{ s with heap := s.heap.put id (some b), wrs := id :: s.wrs }, [], ?_, ?_, rfl, hs.oc, rfl, rfl, rfl, rfl⟩⟩
 ·have : s.heap.get id = some b0 := by rw [hs.hp]; exact hg
  simp only [jF, tL, this]
 ·funext j
  simp only [Tr.mX, hs.hp, Go.Am.upd]
theorem kA {m : M a9} {rs ws : List Nat} {v : a9} {h2 : Hp} {o : Nat} {fs : List fN} (hr : Wr m h n rs ws v h2) (hq : Fe E fn rnd Q ks ops (o + 1) rest (aC tm d v) (⟨o, rs, ws, n, n⟩ :: fs) h2 n) :
  FeV E fn rnd Q ks ops o rest d tm fs m h n := by
 unfold FeV
 obtain ⟨s', ob, e, a, b, c, dd, w, g, q⟩ := hr.r (at0 h n) (lL h n)
 have hold : ∀ l : List Nat, l.filter (old n n) = l := fun l => by
  rw [List.filter_eq_self]
  intro id _
  unfold old
  by_cases hc : id < n
  ·rw [show id.blt n = true from Nat.ble_eq_true_of_le hc]; rfl
  ·rw [show n.ble id = true from Nat.ble_eq_true_of_le (by omega)]; simp
 have hf : (jI o m).run (at0 h n) = .ok (v, ⟨o, rs, ws, n, n⟩) { s' with rds := s'.rds ++ (at0 h n).rds, wrs := s'.wrs ++ (at0 h n).wrs } := by
  have e' : m.run { at0 h n with rds := [], wrs := [] } = .ok v s' := e
  simp only [jI, lG, e', dd, w, b]
  simp only [at0, List.append_nil, hold]
 rw [eQ]
 refine ⟨_, _, ⟨hf, ⟨ob, g, q⟩, c⟩, ?_⟩
 rw [a, b]; exact hq
theorem vX {i j n m x y : Nat} (h : x ≠ y) : fE ⟨i, [x], [], n, n⟩ ⟨j, [y], [y], m, m⟩ = false := by
 simp [fE, meets, kE, jM h]
theorem vW {i j n m x y : Nat} (h : x ≠ y) : fE ⟨i, [x], [x], n, n⟩ ⟨j, [y], [], m, m⟩ = false := by
 simp [fE, meets, kE, jM h]
theorem vV {i j n m x y : Nat} (h : x ≠ y) : fE ⟨i, [x], [x], n, n⟩ ⟨j, [y], [y], m, m⟩ = false := by
 simp [fE, meets, kE, jM h]
theorem wC {i j a b m x : Nat} (h : x < a ∨ b ≤ x) : fE ⟨i, [], [], a, b⟩ ⟨j, [x], [x], m, m⟩ = false := by
 have : within a b x = false := by
  unfold within
  rcases h with h | h
  ·rw [gP (by omega)]; rfl
  ·rw [show x.blt b = false from gP (by omega)]; simp
 simp only [fE, meets, kE, this, List.any_nil, List.any_cons, Bool.or_false, Bool.false_or, Bool.or_self]
 cases a.beq b <;> simp [this]
theorem vU {i j a b m x : Nat} (h : x < a ∨ b ≤ x) : fE ⟨i, [x], [], m, m⟩ ⟨j, [], [], a, b⟩ = false := by
 have : within a b x = false := by
  unfold within
  rcases h with h | h
  ·rw [gP (by omega)]; rfl
  ·rw [show x.blt b = false from gP (by omega)]; simp
 simp only [fE, meets, kE, this, List.any_nil, List.any_cons, Bool.or_false, Bool.false_or, Bool.or_self]
 cases a.beq b <;> simp [this]
theorem wB {i j a b m x : Nat} (h : x < a ∨ b ≤ x) : fE ⟨i, [], [], a, b⟩ ⟨j, [x], [], m, m⟩ = false := by
 have : within a b x = false := by
  unfold within
  rcases h with h | h
  ·rw [gP (by omega)]; rfl
  ·rw [show x.blt b = false from gP (by omega)]; simp
 simp only [fE, meets, kE, this, List.any_nil, List.any_cons, Bool.or_false, Bool.false_or, Bool.or_self]
 cases a.beq b <;> simp [this]
end Go.Am
