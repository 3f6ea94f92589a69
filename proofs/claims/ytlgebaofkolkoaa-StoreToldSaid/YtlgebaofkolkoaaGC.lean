/- What the statement reaches, gone through; and the abstract machine that goes through it. -/
import Derived.Test.YtlgebaofkolkoaaGB
import Derived.Lib.BytesEntry
import Derived.Lib.Overlaps
import Derived.Laws.Externs
import Derived.KernelRfl
import Derived.Test.YtlgebaofkolkoaaProg
set_option linter.unusedSimpArgs false
set_option linter.unusedVariables false
set_option linter.defProp false
namespace Go.Am
open Go Go.RowKit
variable {E : Env} {fn : FuncId} {rnd : Option Nat} {Q : eJ} {ks : List Kf} {tm : List a9} {h : Hp} {n : Nat} {ops rest : List Oper} {d : Option Tmp}
inductive Rds (h : Hp) (sz : Nat) : a9 → Nat → List a9 → Prop
 | aV : Rds h sz .aV 0 []
 | emp : Rds h sz .emp 0 []
 | isl (f : Nat → a9) (off cnt : Nat) (xs : List a9) (hl : xs.length = cnt * sz) (hf : ∀ j (hj : j < xs.length), f (off + j) = xs[j]) : Rds h sz (.isl f sz off cnt) cnt xs
 | sl (id off cnt : Nat) (cap : Option Nat) (c : bQ) (e : TypeId) (xs : List a9) (hh : h id = some (.row c e)) (hl : xs.length = cnt * sz) (hs : off + xs.length ≤ c.size) (hc : ∀ j (hj : j < xs.length), c.at (off + j) = xs[j]) : Rds h sz (.sl id off cnt cap sz) cnt xs
def rid (v : a9) : List Nat := (bB v).toList
theorem Rds.length {sz cnt : Nat} {v : a9} {xs : List a9} (hr : Rds h sz v cnt xs) : xs.length = cnt * sz := by
 cases hr with
 | aV => simp
 | emp => simp
 | isl f off cnt xs hl hf => exact hl
 | sl id off cnt cap c e xs hh hl hs hc => exact hl
theorem Rds.len {sz cnt : Nat} {v : a9} {xs : List a9} (hr : Rds h sz v cnt xs) : lenOf v = M.pure cnt := by cases hr <;> rfl
theorem Rds.cY {sz cnt : Nat} {v : a9} {xs : List a9} (hr : Rds h sz v cnt xs) {t : TypeId} {ts : List TypeId} {e : TypeId} (ht : und E t = M.pure (.slice e)) : cY E (t :: ts) v = M.pure (.int .i64 (cnt : Nat)) := by
 cases hr <;> simp only [Am.cY, ht, bind_pure, lenOf] <;> rfl
theorem Rds.kind {sz cnt : Nat} {v : a9} {xs : List a9} (hr : Rds h sz v cnt xs) : v.cells = [v] ∧ bN v = true ∧ eD v = false := by cases hr <;> exact ⟨rfl, rfl, rfl⟩
theorem Rds.aX {sz cnt : Nat} {v : a9} {xs : List a9} {h' : Hp} (hr : Rds h sz v cnt xs) (hk : ∀ j, bB v = some j → h' j = h j) : Rds h' sz v cnt xs := by
 cases hr with
 | aV => exact .aV
 | emp => exact .emp
 | isl f off cnt xs hl hf => exact .isl f off cnt xs hl hf
 | sl id off cnt cap c e xs hh hl hs hc => exact .sl id off cnt cap c e xs ((hk id rfl).trans hh) hl hs hc
theorem Rds.idx {sz cnt : Nat} {v : a9} {xs : List a9} (hr : Rds h sz v cnt xs) {t e : TypeId} (ht : und E t = M.pure (.slice e)) (he : sizeOf E e = M.pure sz) {kk : IntKind} {z : Int} {j : Nat} (hz : z = (j : Nat)) (hj : j < cnt) {h' : Hp} {n' : Nat} :
  Rd (indexAddr E t v (.int kk z)) h' n' [] (addrOf (j * sz) v) := by
 cases hr with
 | aV => omega
 | emp => omega
 | isl f off cnt xs hl hf => exact OK ht he hz hj
 | sl id off cnt cap c e xs hh hl hs hc => exact RG ht he hz hj
theorem jA {v : a9} {sz cnt : Nat} {xs : List a9} (hr : Rds h sz v cnt xs) (hc : 0 < cnt) (k m : Nat) : aS m (addrOf k v) = M.pure (addrOf (k + m) v) := by
 cases hr with
 | aV => omega
 | emp => omega
 | isl f off cnt xs hl hf => simp only [addrOf, aS, Nat.add_assoc]
 | sl id off cnt cap c e xs hh hl hs hc => simp only [addrOf, aS, Nat.add_assoc]
theorem Rds.load {sz cnt : Nat} {v : a9} {xs : List a9} (hr : Rds h sz v cnt xs) {t : TypeId} {i : TI} (hi : ti E t = M.pure i) (ha : eK i.desc = false) {k : Nat} {x : a9} (hx : xs[k]? = some x) :
  Rd (load E t (addrOf k v)) h n (rid v) x := by
 obtain ⟨hk, hx⟩ := List.getElem?_eq_some_iff.1 hx
 cases hr with
 | aV => simp at hk
 | emp => simp at hk
 | isl f off cnt xs hl hf =>
  simp only [Go.Am.load, hi, bind_pure, ha, bI, bind_assoc, addrOf]
  refine Rd.bind (i1 := []) (i2 := []) (Rd.ob (dC (by omega))) ?_
  rw [uB, hf k hk, hx]
  exact Rd.pure _
 | sl id off cnt cap c e xs hh hl hs hc =>
  simp only [Go.Am.load, hi, bind_pure, ha, bI, bind_assoc, addrOf]
  refine Rd.bind (i1 := [id]) (i2 := []) (Rd.get hh) ?_
  simp only [cX, bind_assoc]
  refine Rd.bind (i1 := []) (i2 := []) (Rd.ob (dC (by omega))) ?_
  rw [bQ.sub_one (by omega), hc k hk, hx]
  exact Rd.pure _
theorem Rds.agg {sz cnt : Nat} {v : a9} {xs : List a9} (hr : Rds h sz v cnt xs) {t : TypeId} {i : TI} (hi : ti E t = M.pure i) (ha : eK i.desc = true) (hz : 0 < i.size) {k : Nat} (hk : k + i.size ≤ xs.length) :
  Rd (Go.Am.load E t (addrOf k v)) h n (rid v) (.agg ((xs.drop k).take i.size)) := by
 have hlen : ((xs.drop k).take i.size).length = i.size := by rw [List.length_take, List.length_drop]; omega
 have hget : ∀ j (hj : j < ((xs.drop k).take i.size).length), ((xs.drop k).take i.size)[j] = xs[k + j]'(by omega) := fun j hj => by simp
 cases hr with
 | aV => simp at hk; omega
 | emp => simp at hk; omega
 | isl f off cnt xs hl hf =>
  simp only [Go.Am.load, hi, bind_pure, ha, bI, bind_assoc, addrOf]
  refine Rd.bind (i1 := []) (i2 := []) (Rd.ob (dC (by omega))) ?_
  rw [jV f i.size (off + k) ((xs.drop k).take i.size) hlen (fun j hj => by rw [Nat.add_assoc, hf (k + j) (by omega), hget j hj])]
  exact Rd.pure _
 | sl id off cnt cap c e xs hh hl hs hc =>
  simp only [Go.Am.load, hi, bind_pure, ha, bI, bind_assoc, addrOf]
  refine Rd.bind (i1 := [id]) (i2 := []) (Rd.get hh) ?_
  simp only [cX, bind_assoc]
  refine Rd.bind (i1 := []) (i2 := []) (Rd.ob (dC (by omega))) ?_
  have := bQ.sub_eq (c := c) (off := off + k) (l := (xs.drop k).take i.size) (by omega) (fun j hj => by rw [Nat.add_assoc, hc (k + j) (by omega), hget j hj])
  rw [hlen] at this
  rw [this]
  exact Rd.pure _
theorem Rds.cells {sz cnt : Nat} {v : a9} {xs : List a9} (hr : Rds h sz v cnt xs) : Rd (eB sz cnt v) h n (rid v) xs := by
 cases hr with
 | aV => exact Rd.bind (i1 := []) (i2 := []) (Rd.ob rfl) (Rd.pure _)
 | emp => exact Rd.bind (i1 := []) (i2 := []) (Rd.ob rfl) (Rd.pure _)
 | isl f off cnt xs hl hf =>
  simp only [eB, bR, Nat.beq_refl]
  refine Rd.bind (i1 := []) (i2 := []) (Rd.ob (dC (Nat.le_refl _))) ?_
  rw [jV f (cnt * sz) off xs hl (fun j hj => hf j hj)]
  exact Rd.pure _
 | sl id off cnt cap c e xs hh hl hs hc =>
  simp only [eB, bR, Nat.beq_refl]
  refine Rd.bind (i1 := [id]) (i2 := []) (Rd.get hh) ?_
  simp only [cX]
  refine Rd.bind (i1 := []) (i2 := []) (Rd.ob (dC (Nat.le_refl _))) ?_
  refine Rd.bind (i1 := []) (i2 := []) (Rd.ob (dC (by omega))) ?_
  have := bQ.sub_eq (c := c) (off := off) (l := xs) hs hc
  rw [← hl, this]
  exact Rd.pure _
theorem Bytes.rds {v : a9} {l : List UInt8} (hb : Bytes h v l) : Rds h 1 v l.length (l.map u8) := by
 cases hb with
 | aV => exact .aV
 | isl f off l hf => exact .isl f off _ _ (by simp) (fun j hj => by rw [List.getElem_map]; exact hf j (by simpa using hj))
 | sl id off cap c e l hh hs hc => exact .sl id off _ cap c e _ hh (by simp) (by simpa using hs) (fun j hj => by rw [List.getElem_map]; exact hc j (by simpa using hj))
theorem Rds.bytes {v : a9} {cnt : Nat} {l : List UInt8} (hr : Rds h 1 v cnt (l.map u8)) (hn : v ≠ .emp) : Bytes h v l := by
 have hl := hr.length
 rw [List.length_map, Nat.mul_one] at hl
 generalize hx : l.map u8 = xs at hr
 cases hr with
 | aV =>
  have : l = [] := by simpa using hx
  subst this; exact .aV
 | emp => exact absurd rfl hn
 | isl f off cnt xs hl2 hf =>
  subst hl
  exact .isl f off l (fun j hj => by subst hx; rw [hf j (by simpa using hj), List.getElem_map])
 | sl id off cnt cap c e xs hh hl2 hs hc =>
  subst hl
  exact .sl id off cap c e l hh (by subst hx; simpa using hs) (fun j hj => by subst hx; rw [hc j (by simpa using hj), List.getElem_map])
inductive Lst (h : Hp) (e : TypeId) (sz : Nat) : a9 → Nat → List a9 → Prop
 | nil : Lst h e sz .aV 0 []
 | sl (id cnt : Nat) (cap : Option Nat) (cells xs : List a9) (hh : h id = some (.row (.l cells) e)) (hl : cnt * sz ≤ cells.length) (hc : ∀ k, cap = some k → cnt ≤ k ∧ k * sz ≤ cells.length) (hx : cells.take (cnt * sz) = xs) : Lst h e sz (.sl id 0 cnt cap sz) cnt xs
theorem Lst.rds {e : TypeId} {sz cnt : Nat} {v : a9} {xs : List a9} (ho : Lst h e sz v cnt xs) : Rds h sz v cnt xs := by
 cases ho with
 | nil => exact .aV
 | sl id cnt cap cells xs hh hl hc hx =>
  subst hx
  refine .sl id 0 cnt cap (.l cells) e _ hh (by rw [List.length_take]; omega) (by rw [List.length_take]; show 0 + _ ≤ cells.length; omega) (fun j hj => ?_)
  rw [List.length_take] at hj
  rw [Nat.zero_add, bQ.tM (by omega), List.getElem_take]
theorem Lst.aX {e : TypeId} {sz cnt : Nat} {v : a9} {xs : List a9} {h' : Hp} (ho : Lst h e sz v cnt xs) (hk : ∀ j, bB v = some j → h' j = h j) : Lst h' e sz v cnt xs := by
 cases ho with
 | nil => exact .nil
 | sl id cnt cap cells xs hh hl hc hx => exact .sl id cnt cap cells xs ((hk id rfl).trans hh) hl hc hx
theorem Lst.live {e : TypeId} {sz cnt : Nat} {v : a9} {xs : List a9} (ho : Lst h e sz v cnt xs) (hf : bO h n) {j : Nat} (hj : bB v = some j) : j < n := by
 cases ho with
 | nil => cases hj
 | sl id cnt cap cells xs hh hl hc hx =>
  injection hj with hj
  subst hj
  by_cases q : id < n
  ·exact q
  ·rw [hf id (by omega)] at hh; cases hh
theorem A0 {e : TypeId} {sz cnt : Nat} {cap : Option Nat} {xs : List a9} {id : Nat} (hh : h id = some (.row (.l xs) e)) (hl : xs.length = cnt * sz) (hc : ∀ k, cap = some k → k = cnt) : Lst h e sz (.sl id 0 cnt cap sz) cnt xs :=
 .sl id cnt cap xs xs hh (by omega) (fun k hk => by have := hc k hk; subst this; omega) (by rw [← hl, List.take_length])
theorem oE {xs ys : List a9} {a : Nat} (h : a + ys.length ≤ xs.length) : (cB xs a ys).take (a + ys.length) = xs.take a ++ ys := by
 unfold cB
 rw [← List.append_assoc, List.take_append_of_le_length (by rw [List.length_append, List.length_take]; omega), List.take_of_length_le (by rw [List.length_append, List.length_take]; omega)]
theorem eQ {α β : Type} {m : M α} {f : α → M β} {ids : List Nat} {a : α} {Q2 : β → Hp → Nat → Prop} (hr : Rd m h n ids a) (hw : Wp (f a) h n Q2) : Wp (m.bind f) h n Q2 :=
 wp_bind (wp_mono hr.wp fun a' h' n' ⟨e1, e2, e3⟩ => by subst e1; subst e2; subst e3; exact hw)
theorem mA {Q1 : a9 → Hp → Nat → Prop} {t t2 e : TypeId} {i : TI} {s x : a9} {cnt k : Nat} {xs ys : List a9} (hs : Lst h e i.size s cnt xs) (hx : Rds h i.size x k ys)
  (ht : und E t = M.pure (.slice e)) (ht2 : und E t2 = M.pure (.slice e)) (hi : ti E e = M.pure i) (hy : ys.all bN = true) (hz : 0 < i.size)
  (hroom : 2 * (cnt + k) * i.bytes ≤ 281474976710656) (hroom2 : cnt + k ≤ 281474976710656) (hf : bO h n)
  (hq : ∀ v' h' n', n ≤ n' → bO h' n' → Lst h' e i.size v' (cnt + k) (xs ++ ys) → (bB v' = bB s ∨ bB v' = some n ∧ n < n') → (∀ j, j < n → bB s ≠ some j → h' j = h j) → Q1 v' h' n') :
  Wp (fR E [t, t2] s x) h n Q1 := by
 have hyl := hx.length
 simp only [fR, ht2, bind_pure, fH, append, ht, hi, hx.len, bind_assoc, gM]
 by_cases hk : k = 0
 ·subst hk
  have hy0 : ys = [] := List.eq_nil_of_length_eq_zero (by omega)
  subst hy0
  have key : Lst h e i.size s (cnt + 0) (xs ++ []) := by rw [List.append_nil]; exact hs
  have := hq s h n (Nat.le_refl _) hf key (.inl rfl) (fun _ _ _ => rfl)
  rw [Nat.beq_refl]
  cases hs <;> exact wp_pure.2 this
 have hk0 : k.beq 0 = false := jW hk
 have hkz : 0 < k * i.size := Nat.mul_pos (by omega) hz
 simp only [hk0]
 refine eQ hx.cells ?_
 have r1 : ((2 * (cnt + k) * i.bytes).ble room && (cnt + k).ble room) = true := by
  unfold room
  rw [dC hroom, dC hroom2]; rfl
 have grow : ∀ h1 : Hp, (∀ j, n ≤ j → h1 j = none) → (∀ j, j < n → bB s ≠ some j → h1 j = h j) → xs.length = cnt * i.size → Q1 (.sl n 0 (cnt + k) none i.size) (upd h1 n (some (.row (.l (xs ++ ys)) e))) (n + 1) := fun h1 hf1 ho1 hxl => by
  refine hq _ _ _ (by omega) (bO.new hf1) (A0 (aW _ _ _) (by rw [List.length_append, hxl, hyl, Nat.add_mul]) (fun k hk => by cases hk)) (.inr ⟨rfl, by omega⟩) (fun j hj hn => ?_)
  rw [aP _ _ (by omega)]; exact ho1 j hj hn
 cases hs with
 | nil =>
  rw [Nat.zero_add] at r1
  simp only [grown, eY, iH, wp_pure, r1, true_and]
  have := grow h hf (fun _ _ _ => rfl) (by simp)
  simpa using this
 | sl id cnt cap cells xs hh hl hc hxs =>
  have hid : id < n := by
   by_cases q : id < n
   ·exact q
   ·rw [hf id (by omega)] at hh; cases hh
  have hxl : xs.length = cnt * i.size := by rw [← hxs, List.length_take]; omega
  have inplace : (cnt + k) * i.size ≤ cells.length → ∀ cap', (∀ j, cap' = some j → cnt + k ≤ j ∧ j * i.size ≤ cells.length) →
    Q1 (.sl id 0 (cnt + k) cap' i.size) (upd h id (some (.row (.l (cB cells (cnt * i.size) ys)) e))) n := fun hfit cap' hcap' => by
   rw [Nat.add_mul] at hfit
   have hsl := fJ (xs := cells) (vs := ys) (off := cnt * i.size) (by omega)
   refine hq _ _ _ (Nat.le_refl _) (hf.upd hid) (.sl id (cnt + k) cap' _ _ (aW _ _ _) (by rw [hsl, Nat.add_mul]; omega) (fun j hj => by rw [hsl]; exact hcap' j hj) ?_) (.inl rfl) (fun j hj hn => aP _ _ (fun q => hn (by rw [q]; rfl)))
   rw [Nat.add_mul, ← hyl, oE (by omega), hxs]
  have hwr : ∀ {β : Type} (f : Unit → M β) (Q2 : β → Hp → Nat → Prop), (cnt + k) * i.size ≤ cells.length → Wp (f ()) (upd h id (some (.row (.l (cB cells (cnt * i.size) ys)) e))) n Q2 → Wp ((dX (.ptr id (0 + cnt * i.size)) ys).bind f) h n Q2 := fun f Q2 hfit hw => by
   rw [Nat.add_mul] at hfit
   have hb : (cnt * i.size + ys.length).ble cells.length = true := dC (by omega)
   simp only [dX, Nat.zero_add, bind_assoc, fI, hh, Option.some.injEq, exists_eq_left', cX, eY, bQ.size, hb, hy, l8, true_and]
   rw [mN _ _ _ (by omega)]
   exact ⟨by simp, hw⟩
  have hrd : ∀ {β : Type} (f : List a9 → M β) (Q2 : β → Hp → Nat → Prop), Wp (f xs) h n Q2 → Wp ((eB i.size cnt (.sl id 0 cnt cap i.size)).bind f) h n Q2 := fun f Q2 hw => by
   have := (Lst.sl (e := e) (sz := i.size) id cnt cap cells xs hh hl hc hxs).rds.cells (n := n)
   exact eQ this hw
  simp only [bR, Nat.beq_refl, fI, hh, Option.some.injEq, exists_eq_left', cX]
  cases cap with
  | none =>
   simp only [gM, Nat.zero_add, bQ.size]
   by_cases hfit : (cnt + k) * i.size ≤ cells.length
   ·rw [dC hfit]
    simp only [eY]
    refine ⟨Nat.ble_eq_true_of_le hz, ?_⟩
    have := hwr (fun _ => M.pure (a9.sl id 0 (cnt + k) none i.size)) Q1 hfit (wp_pure.2 (inplace hfit none (fun j hj => by cases hj)))
    rwa [Nat.zero_add] at this
   ·rw [iB hfit]
    simp only [hy, Nat.beq_refl, Bool.and_self]
    refine hrd _ _ ?_
    simp only [zD, grown, eY, iH, wp_pure, r1, true_and, hh]
    refine ⟨by simp, grow (upd h id none) (fun j hj => by rw [aP _ _ (by omega)]; exact hf j hj) (fun j hj hn => aP _ _ (fun q => hn (by rw [q]; rfl))) hxl⟩
  | some m =>
   simp only [gM]
   obtain ⟨hc1, hc2⟩ := hc m rfl
   by_cases hfit : cnt + k ≤ m
   ·have hfit2 : (cnt + k) * i.size ≤ cells.length := Nat.le_trans (Nat.mul_le_mul_right _ hfit) hc2
    rw [dC hfit]
    exact hwr _ _ hfit2 (wp_pure.2 (inplace hfit2 (some m) (fun j hj => by injection hj with hj; subst hj; exact ⟨hfit, hc2⟩)))
   ·rw [iB hfit]
    refine hrd _ _ ?_
    simp only [grown, eY, iH, wp_pure, r1, true_and]
    exact grow h hf (fun _ _ _ => rfl) hxl
theorem fU {t t2 e : TypeId} {i : TI} {s x : a9} {cnt k : Nat} {xs ys : List a9} (hs : Lst h e i.size s cnt xs) (hx : Rds h i.size x k ys)
  (ht : und E t = M.pure (.slice e)) (ht2 : und E t2 = M.pure (.slice e)) (hi : ti E e = M.pure i) (hy : ys.all bN = true) (hz : 0 < i.size)
  (hroom : 2 * (cnt + k) * i.bytes ≤ 281474976710656) (hroom2 : cnt + k ≤ 281474976710656) (hf : bO h n)
  (hq : ∀ v' h' n', n ≤ n' → bO h' n' → Lst h' e i.size v' (cnt + k) (xs ++ ys) → (bB v' = bB s ∨ bB v' = some n ∧ n < n') → (∀ j, j < n → bB s ≠ some j → h' j = h j) → Ops E fn rnd Q ks ops rest (aD tm d v') h' n') :
  OpV E fn rnd Q ks ops rest d tm (fR E [t, t2] s x) h n := mA hs hx ht ht2 hi hy hz hroom hroom2 hf hq
theorem BO {xs : List a9} {a b j : Nat} (hj : j < ((xs.drop a).take b).length) : ((xs.drop a).take b)[j] = xs[a + j]'(by rw [List.length_take, List.length_drop] at hj; omega) := by simp
theorem Rds.sub {sz cnt : Nat} {v : a9} {xs : List a9} (hr : Rds h sz v cnt xs) {lo hi : Nat} (h1 : lo ≤ hi) (h2 : hi ≤ cnt) : Rds h sz (kA lo hi v) (hi - lo) ((xs.drop (lo * sz)).take ((hi - lo) * sz)) := by
 have hl := hr.length
 have hm : lo * sz + (hi - lo) * sz ≤ cnt * sz := by rw [← Nat.add_mul]; exact Nat.mul_le_mul_right _ (by omega)
 have hlen : ((xs.drop (lo * sz)).take ((hi - lo) * sz)).length = (hi - lo) * sz := by rw [List.length_take, List.length_drop]; omega
 cases hr with
 | aV =>
  have e1 : hi = 0 := by omega
  have e2 : lo = 0 := by omega
  subst e1; subst e2
  simpa [kA] using Rds.aV
 | emp =>
  have e1 : hi = 0 := by omega
  have e2 : lo = 0 := by omega
  subst e1; subst e2
  simpa [kA] using Rds.emp
 | isl f off cnt xs hl2 hf => exact .isl f _ _ _ hlen (fun j hj => by rw [BO hj, Nat.add_assoc]; exact hf _ _)
 | sl id off cnt cap c e xs hh hl2 hs hc => exact .sl id _ _ _ c e _ hh hlen (by omega) (fun j hj => by rw [BO hj, Nat.add_assoc]; exact hc _ _)
theorem Rds.OM {sz cnt : Nat} {v : a9} {xs : List a9} (hr : Rds h sz v cnt xs) (ho : Roomy v) {t e : TypeId} (ht : und E t = M.pure (.slice e)) (he : sizeOf E e = M.pure sz) {k2 : IntKind} {hi : Nat} {z2 : Int} (e2 : z2 = (hi : Nat)) (h2 : hi ≤ cnt) {n' : Nat} {h' : Hp} :
  Rd (slice E t v none (some (.int k2 z2)) none) h' n' [] (kA 0 hi v) := by
 subst e2
 cases hr with
 | aV =>
  have e1 : hi = 0 := by omega
  subst e1
  simp only [slice, ht, he, bind_pure, bound, cW, bind_assoc]
  exact Rd.bind (i2 := []) (Rd.ob (by simp)) (Rd.pure _)
 | emp =>
  have e1 : hi = 0 := by omega
  subst e1
  simp only [slice, ht, he, bind_pure, bound, cW, bind_assoc]
  exact Rd.bind (i2 := []) (Rd.ob (by simp)) (Rd.pure _)
 | isl f off cnt xs hl hf =>
  simp only [slice, ht, he, bind_pure, bound, cW, bind_assoc, bR, Nat.beq_refl]
  exact Rd.bind (i2 := []) (Rd.ob (by simp; omega)) (Rd.pure _)
 | sl id off cnt cap c e xs hh hl hs hc =>
  cases cap with
  | none =>
   have hle : ((hi : Nat) : Int) ≤ ((cnt : Nat) : Int) := by omega
   simp only [slice, kK, decide_eq_true hle, ht, he, bind_pure, bound, cW, bind_assoc, bR, Nat.beq_refl]
   exact Rd.bind (i2 := []) (Rd.ob (by simp; omega)) (Rd.pure _)
  | some cc =>
   have hcc : cnt ≤ cc := ho
   simp only [slice, kK, ht, he, bind_pure, bound, cW, bind_assoc, bR, Nat.beq_refl]
   exact Rd.bind (i2 := []) (Rd.ob (by simp; omega)) (Rd.pure _)
theorem Rds.zK {sz cnt : Nat} {v : a9} {xs : List a9} (hr : Rds h sz v cnt xs) {t e : TypeId} (ht : und E t = M.pure (.slice e)) (he : sizeOf E e = M.pure sz) {k1 : IntKind} {lo : Nat} {z1 : Int} (e1 : z1 = (lo : Nat)) (h2 : lo ≤ cnt) {n' : Nat} {h' : Hp} :
  Rd (slice E t v (some (.int k1 z1)) none none) h' n' [] (kA lo cnt v) := by
 subst e1
 cases hr with
 | aV =>
  have e2 : lo = 0 := by omega
  subst e2
  simp only [slice, ht, he, bind_pure, bound, cW, bind_assoc]
  exact Rd.bind (i2 := []) (Rd.ob (by simp)) (Rd.pure _)
 | emp =>
  have e2 : lo = 0 := by omega
  subst e2
  simp only [slice, ht, he, bind_pure, bound, cW, bind_assoc]
  exact Rd.bind (i2 := []) (Rd.ob (by simp)) (Rd.pure _)
 | isl f off cnt xs hl hf =>
  simp only [slice, ht, he, bind_pure, bound, cW, bind_assoc, bR, Nat.beq_refl]
  exact Rd.bind (i2 := []) (Rd.ob (by simp; omega)) (Rd.pure _)
 | sl id off cnt cap c e xs hh hl hs hc =>
  cases cap with
  | none =>
   simp only [slice, kK, ht, he, bind_pure, bound, cW, bind_assoc, bR, Nat.beq_refl]
   exact Rd.bind (i2 := []) (Rd.ob (by simp; omega)) (Rd.pure _)
  | some cc =>
   simp only [slice, kK, ht, he, bind_pure, bound, cW, bind_assoc, bR, Nat.beq_refl]
   exact Rd.bind (i2 := []) (Rd.ob (by simp; omega)) (Rd.pure _)
theorem Lst.roomy {e : TypeId} {sz cnt : Nat} {v : a9} {xs : List a9} (ho : Lst h e sz v cnt xs) : Roomy v := by
 cases ho with
 | nil => trivial
 | sl id cnt cap cells xs hh hl hc hx =>
  cases cap with
  | none => trivial
  | some c => exact (hc c rfl).1
theorem Lst.pre {e : TypeId} {sz cnt : Nat} {v : a9} {xs : List a9} (ho : Lst h e sz v cnt xs) {hi : Nat} (h2 : hi ≤ cnt) : Lst h e sz (kA 0 hi v) hi (xs.take (hi * sz)) := by
 cases ho with
 | nil =>
  have : hi = 0 := by omega
  subst this
  simpa [kA] using Lst.nil
 | sl id cnt cap cells xs hh hl hc hx =>
  have hm := Nat.mul_le_mul_right sz h2
  have xe : cells.take (hi * sz) = xs.take (hi * sz) := by rw [← hx, List.take_take, Nat.min_eq_left hm]
  cases cap with
  | none =>
   simp only [kA, Nat.zero_mul, Nat.add_zero, Nat.sub_zero]
   exact .sl id hi none cells _ hh (by omega) (fun k hk => by cases hk) xe
  | some c =>
   simp only [kA, Nat.zero_mul, Nat.add_zero, Nat.sub_zero]
   have := hc c rfl
   exact .sl id hi (some c) cells _ hh (by omega) (fun k hk => by injection hk with hk; subst hk; exact ⟨by omega, this.2⟩) xe
def tZ (a : Nat) : a9 → a9
 | .sl id off _ _ sz => .sl id off a (some a) sz
 | v => v
theorem Lst.VX {sz cnt : Nat} {v : a9} {xs : List a9} {e : TypeId} (hr : Lst h e sz v cnt xs) {t : TypeId} (ht : und E t = M.pure (.slice e)) (he : sizeOf E e = M.pure sz) {k1 k2 : IntKind} {a : Nat} {z1 : Int} (e1 : z1 = (a : Nat)) (h2 : a ≤ cnt) {n' : Nat} {h' : Hp} :
  Rd (slice E t v none (some (.int k1 z1)) (some (.int k2 z1))) h' n' [] (tZ a v) := by
 subst e1
 have ro := hr.roomy
 cases hr with
 | nil =>
  have e2 : a = 0 := by omega
  subst e2
  simp only [slice, ht, he, bind_pure, bound, cW, bind_assoc]
  exact Rd.bind (i2 := []) (Rd.ob (by simp)) (Rd.bind (i2 := []) (Rd.ob (by simp)) (Rd.pure _))
 | sl id cnt cap cells xs hh hl hc hx =>
  have hb : ((a : Nat) : Int) ≤ ((cap.getD cnt : Nat) : Int) := by
   cases cap with
   | none => simp only [Option.getD_none]; omega
   | some c => have := (hc c rfl).1; simp only [Option.getD_some]; omega
  simp only [slice, ht, he, bind_pure, bound, cW, bind_assoc, bR, Nat.beq_refl, Nat.zero_mul, Nat.add_zero, Nat.sub_zero, Int.toNat_natCast]
  exact Rd.bind (i2 := []) (Rd.ob (decide_eq_true ⟨by omega, hb⟩)) (Rd.bind (i2 := []) (Rd.ob (decide_eq_true ⟨by omega, by omega⟩)) (Rd.pure _))
theorem Lst.cut {e : TypeId} {sz cnt : Nat} {v : a9} {xs : List a9} (ho : Lst h e sz v cnt xs) {a : Nat} (h2 : a ≤ cnt) : Lst h e sz (tZ a v) a (xs.take (a * sz)) := by
 cases ho with
 | nil =>
  have : a = 0 := by omega
  subst this
  simpa [kA, tZ] using Lst.nil
 | sl id cnt cap cells xs hh hl hc hx =>
  have hm := Nat.mul_le_mul_right sz h2
  exact .sl id a _ cells _ hh (by omega) (fun k hk => by injection hk with hk; subst hk; exact ⟨Nat.le_refl _, by omega⟩) (by rw [← hx, List.take_take, Nat.min_eq_left hm])
theorem LI (a : Nat) (v : a9) : bB (tZ a v) = bB v := by cases v <;> rfl
theorem IG {v : a9} {b : Bool} (hv : oO v = M.pure b) {t e : TypeId} (ht : und E t = M.pure (.slice e)) : bJ E t v .aV = M.pure b := by
 unfold bJ equal
 rw [ht, bind_pure]
 simp only
 rw [hv, bind_pure, dO, bind_pure, Bool.or_true, Bool.and_true]
theorem Lst.BY {e : TypeId} {sz cnt : Nat} {v : a9} {xs : List a9} (ho : Lst h e sz v cnt xs) {t : TypeId} (ht : und E t = M.pure (.slice e)) : binOp E .eql t v .aV = M.pure (.bool (lN v)) ∧ (lN v = true → v = .aV ∧ cnt = 0 ∧ xs = []) := by
 cases ho with
 | nil =>
  refine ⟨?_, fun _ => ⟨rfl, rfl, rfl⟩⟩
  show bE E .eql t .aV .aV = _
  unfold bE
  simp only
  rw [IG dO ht]; rfl
 | sl id cnt cap cells xs hh hl hc hx =>
  refine ⟨?_, fun q => by cases q⟩
  show bE E .eql t (.sl id 0 cnt cap sz) .aV = _
  unfold bE
  simp only
  rw [IG (dT _ _ _ _ _) ht]; rfl
theorem mK {id : Nat} {args : List a9} {l : kI} {Q1 : a9 → Hp → Nat → Prop} (hl : h id = some (.loop l)) (hs : l.state = .ready) (ha : args.length.beq l.params.length = true)
  (hw : Run E l.fn (some id) (fun e tm1 h1 n1 => e = .normal ∧ ∃ l2, h1 id = some (.loop l2) ∧ l2.state = .ready ∧
   Run E l.fn (some id) (fun e2 tm2 h2 n2 => ∃ l3, h2 id = some (.loop l3) ∧
    Q1 (.gG (tV e2)) (Go.Am.upd h2 id (some (.loop { l3 with state := (match tV e2 with | true => .ready | false => .done), pending := tB e2 }))) n2)
    l.body [] tm1 (Go.Am.upd h1 id (some (.loop { l2 with state := .busy }))) n1) l.assign [] (lJ l.tmps (l.params.zip args)) h n) :
  Wp (jK E (evalW E) (.fn (.yield id) [] []) args) h n Q1 := by
 simp only [jK, rC]
 refine fI.2 ⟨_, hl, ?_⟩
 simp only [dW, ha, hs, dP]
 refine wp_mono hw fun r h1 n1 hr => ?_
 obtain ⟨e, tm1⟩ := r
 obtain ⟨he, l2, hl2, hs2, hb⟩ := hr
 subst he
 refine fI.2 ⟨_, hl2, ?_⟩
 simp only [dW, hs2]
 refine l8.2 ⟨by rw [hl2]; simp, ?_⟩
 refine dP.2 (wp_mono hb fun r2 h2 n2 hr2 => ?_)
 obtain ⟨e2, tm2⟩ := r2
 obtain ⟨l3, hl3, hq⟩ := hr2
 refine fI.2 ⟨_, hl3, ?_⟩
 simp only [dW]
 refine l8.2 ⟨by rw [hl3]; simp, ?_⟩
 exact wp_pure.2 hq
theorem OT {j : Nat} {fs : List fY} {t : TypeId} {i : TI} (hi : ti E t = M.pure i) {xs : List a9} {f : Nat → a9} (hf : bO h n)
  (hq : ∀ H r w, H n = some (.row (.l xs) t) → (∀ k, k ≠ n → H k = h k) → bO H (n + 1) → Fe E fn rnd Q ks ops (j + 1) rest (aD tm d (f n)) (⟨j, r, w, n, n + 1⟩ :: fs) H (n + 1)) :
  FeV E fn rnd Q ks ops j rest d tm fs ((newRow E t xs).bind fun id => M.pure (f id)) h n := by
 refine eF hf (Q1 := fun v' h' n' => v' = f n ∧ h' = Go.Am.upd h n (some (.row (.l xs) t)) ∧ n' = n + 1) ?_ fun v' h' n' r w hn hf' hh => ?_
 ·simp only [newRow, hi, bind_pure, iH, wp_pure, bind_assoc, and_self]
 ·obtain ⟨rfl, rfl, rfl⟩ := hh
  exact hq _ r w (aW _ _ _) (fun k hk => aP _ _ hk) hf'
theorem j4 {t : TypeId} {i : TI} (hi : ti E t = M.pure i) {xs : List a9} {f : Nat → a9} (hf : bO h n)
  (hq : ∀ H, H n = some (.row (.l xs) t) → (∀ k, k ≠ n → H k = h k) → bO H (n + 1) → Ops E fn rnd Q ks ops rest (aD tm d (f n)) H (n + 1)) :
  OpV E fn rnd Q ks ops rest d tm ((newRow E t xs).bind fun id => M.pure (f id)) h n := by
 simp only [newRow, hi, bind_pure, rN, iY, bind_assoc]
 exact hq _ (aW _ _ _) (fun k hk => aP _ _ hk) hf.new
theorem nE {sz cnt id : Nat} {cap : Option Nat} {xs : List a9} {e : TypeId} (hh : h id = some (.row (.l xs) e)) (hl : xs.length = cnt * sz) : Rds h sz (.sl id 0 cnt cap sz) cnt xs :=
 .sl id 0 cnt cap (.l xs) e xs hh hl (by show 0 + xs.length ≤ xs.length; omega) (fun j hj => by rw [Nat.zero_add, bQ.tM hj])
theorem l9 {h : Hp} {id : Nat} {b : Option Blk} (e : h id = b) : Go.Am.upd h id b = h := funext fun j => by
 by_cases q : j = id
 ·subst q; rw [aW, e]
 ·rw [aP _ _ q]
theorem zE {Q1 : a9 → Hp → Nat → Prop} {t t2 e e' : TypeId} {i : TI} {x : a9} {id cnt k : Nat} {cap : Option Nat} {cells ys : List a9} (hh : h id = some (.row (.l cells) e')) (hx : Rds h i.size x k ys)
  (ht : und E t = M.pure (.slice e)) (ht2 : und E t2 = M.pure (.slice e)) (hi : ti E e = M.pure i) (hy : ys.all bN = true) (hz : 0 < i.size)
  (hfit : (cnt + k) * i.size ≤ cells.length) (hcap : ∀ m, cap = some m → cnt + k ≤ m)
  (hq : Q1 (.sl id 0 (cnt + k) cap i.size) (Go.Am.upd h id (some (.row (.l (cB cells (cnt * i.size) ys)) e'))) n) :
  Wp (fR E [t, t2] (.sl id 0 cnt cap i.size) x) h n Q1 := by
 have hyl := hx.length
 simp only [fR, ht2, bind_pure, fH, append, ht, hi, hx.len, bind_assoc, gM]
 by_cases hk : k = 0
 ·subst hk
  have hy0 : ys = [] := List.eq_nil_of_length_eq_zero (by omega)
  subst hy0
  have hs : cB cells (cnt * i.size) [] = cells := by unfold cB; simp
  rw [hs, l9 hh, Nat.add_zero] at hq
  simp only [Nat.beq_refl]
  exact wp_pure.2 hq
 simp only [jW hk]
 refine eQ hx.cells ?_
 have hwr : ∀ {β : Type} (f : Unit → M β) (Q2 : β → Hp → Nat → Prop), Wp (f ()) (Go.Am.upd h id (some (.row (.l (cB cells (cnt * i.size) ys)) e'))) n Q2 → Wp ((dX (.ptr id (0 + cnt * i.size)) ys).bind f) h n Q2 := fun f Q2 hw => by
  rw [Nat.add_mul] at hfit
  have hb : (cnt * i.size + ys.length).ble cells.length = true := dC (by omega)
  simp only [dX, Nat.zero_add, bind_assoc, fI, hh, Option.some.injEq, exists_eq_left', cX, eY, bQ.size, hb, hy, l8, true_and]
  rw [mN _ _ _ (by omega)]
  exact ⟨by simp, hw⟩
 simp only [bR, Nat.beq_refl, fI, hh, Option.some.injEq, exists_eq_left', cX]
 cases cap with
 | none =>
  simp only [gM, Nat.zero_add, bQ.size, dC hfit, eY]
  refine ⟨Nat.ble_eq_true_of_le hz, ?_⟩
  have := hwr (fun _ => M.pure (a9.sl id 0 (cnt + k) none i.size)) Q1 (wp_pure.2 hq)
  rwa [Nat.zero_add] at this
 | some m =>
  simp only [gM, dC (hcap m rfl)]
  exact hwr _ _ (wp_pure.2 hq)
theorem Lst.inv {e : TypeId} {sz cnt : Nat} {v : a9} {xs : List a9} (ho : Lst h e sz v cnt xs) (hc : 0 < cnt) : ∃ id cap cells, v = .sl id 0 cnt cap sz ∧ h id = some (.row (.l cells) e) ∧ cnt * sz ≤ cells.length ∧ (∀ k, cap = some k → cnt ≤ k ∧ k * sz ≤ cells.length) ∧ cells.take (cnt * sz) = xs := by
 cases ho with
 | nil => omega
 | sl id cnt cap cells xs hh hl hc hx => exact ⟨id, cap, cells, rfl, hh, hl, hc, hx⟩
theorem OU {j : Nat} {fs : List fY} {t : TypeId} {i : TI} {v : a9} (hi : ti E t = M.pure i) (hv : eD v = false) (hf : bO h n)
  (hq : ∀ H r w, H n = some (.row (.l v.cells) t) → (∀ k, k ≠ n → H k = h k) → bO H (n + 1) → Fe E fn rnd Q ks ops (j + 1) rest (aD tm d (.ptr n 0)) (⟨j, r, w, n, n + 1⟩ :: fs) H (n + 1)) :
  FeV E fn rnd Q ks ops j rest d tm fs (alloc E t v) h n := by
 simp only [alloc, hv]
 exact OT hi hf hq
theorem jI {j : Nat} {fs : List fY} {t : TypeId} {i : TI} (hi : ti E t = M.pure i) {xs : List a9} {f : Nat → a9} (hf : bO h n)
  (hq : ∀ H, H n = some (.row (.l xs) t) → (∀ k, k ≠ n → H k = h k) → bO H (n + 1) → Fe E fn rnd Q ks ops (j + 1) rest (aD tm d (f n)) (⟨j, [], [], n, n + 1⟩ :: fs) H (n + 1)) :
  FeV E fn rnd Q ks ops j rest d tm fs ((newRow E t xs).bind fun id => M.pure (f id)) h n := by
 have key : ∀ H : Hp, Wp ((newRow E t xs).bind fun id => M.pure (f id)) H n fun v' h' n' => v' = f n ∧ h' = Go.Am.upd H n (some (.row (.l xs) t)) ∧ n' = n + 1 := fun H => by
  simp only [newRow, hi, bind_pure, iH, wp_pure, bind_assoc, and_self]
 refine oU hf (key _) (key _) fun v' h' n' hn hf' hh => ?_
 obtain ⟨rfl, rfl, rfl⟩ := hh
 exact hq _ (aW _ _ _) (fun k hk => aP _ _ hk) hf'
theorem rZ {x : List Nat} {f : fY} (h : ∀ id, id ∈ x → id < f.lo ∨ f.hi ≤ id) : kQ x f = false := by
 unfold kQ
 cases f.lo.beq f.hi with
 | true => rfl
 | false =>
  simp only
  rw [List.any_eq_false]
  intro y hy
  unfold within
  rcases h y hy with q | q
  ·rw [iB (by omega)]; simp
  ·rw [show y.blt f.hi = false from iB (by omega)]; simp
theorem LQ {i j a b c e : Nat} {r w : List Nat} (hr : ∀ id, id ∈ r → id < a ∨ b ≤ id) (hw : ∀ id, id ∈ w → id < a ∨ b ≤ id) : fP ⟨i, [], [], a, b⟩ ⟨j, r, w, c, e⟩ = false := by
 unfold fP
 simp only [kY, lP, Bool.false_or]
 rw [rZ (f := ⟨i, [], [], a, b⟩) hr, rZ (f := ⟨i, [], [], a, b⟩) hw]; rfl
theorem LP {i j a b c e : Nat} {r w : List Nat} (hr : ∀ id, id ∈ r → id < a ∨ b ≤ id) (hw : ∀ id, id ∈ w → id < a ∨ b ≤ id) : fP ⟨j, r, w, c, e⟩ ⟨i, [], [], a, b⟩ = false := by
 unfold fP
 simp only [jR, lP, Bool.false_or, Bool.or_false]
 rw [rZ (f := ⟨i, [], [], a, b⟩) hr, rZ (f := ⟨i, [], [], a, b⟩) hw]; rfl
end Go.Am
set_option linter.unusedSimpArgs false
set_option linter.unusedVariables false
set_option linter.defProp false
namespace Go.Am
open Go
def m8 (cs : List a9) : M (List UInt8) := (ob (cs.all isByte)).bind fun _ => M.pure (cs.map toByte)
def iS : a9 → M (List UInt8)
 | .aV => M.pure []
 | .emp => M.pure []
 | .str l => M.pure l
 | .sl id off len _ sz => bR sz 1 ((bI (.ptr id off) len).bind m8)
 | .isl g sz off len => bR sz 1 ((bI (.ip g (off + len) off) len).bind m8)
 | _ => fail "bytes expected"
def dK : List a9 → M a9
 | [x, y] => (iS x).bind fun a => (iS y).bind fun b => M.pure (.int .i64 (Lib.compareBytes a b))
 | _ => fail "Compare"
section
variable {P : Program} {f : FuncId} {ρ : Ren} {m : Mem} {s s' : St} {w : World}
theorem yZ {cs : List a9} {l : List UInt8} (h : (m8 cs).run s = .ok l s') (ho : cC s') {ad : Addr} {xs : List Value} (hc : ∀ j y, xs[j]? = some y → w.cell? (ad.add j) = some y) (hx : RL ρ m cs xs.toArray) :
  (Extern.Bytes.loadBytes ad xs.length .empty).run P w = .ok ⟨⟨l⟩⟩ w ∧ fX s s' := by
 unfold m8 at h
 obtain ⟨_, s1, h1, h2, ho1, _, _⟩ := M.aN h ho
 obtain ⟨hall, e1⟩ := eO h1 ho1
 obtain ⟨rfl, rfl⟩ := aG h2
 obtain ⟨ns, b1, b2⟩ := CC hall hx
 have b1' : xs = ns.map (Value.int .u8) := by simpa using b1
 have := Lib.run_loadBytesX (P := P) w ns ad .empty (fun j x hj => hc j _ (by rw [b1', List.getElem?_map, hj]; rfl))
 refine ⟨?_, e1⟩
 rw [b1', List.length_map, this, b2]
 congr 1
 apply ByteArray.ext
 have he0 : ByteArray.empty.data = #[] := rfl
 rw [he0]
 simp [Lib.bytesOf]
theorem wW {a : a9} {l : List UInt8} (h : (iS a).run s = .ok l s') (ho : cC s') (hr : Rel P ρ m s.heap.get w) {x : Value} (hx : R ρ m a x) :
  (Extern.Bytes.bytesOf x).run P w = .ok ⟨⟨l⟩⟩ w ∧ fX s s' := by
 cases a with
 | aV => obtain ⟨rfl, rfl⟩ := aG h; cases hx; exact ⟨rfl, .refl _⟩
 | emp =>
  obtain ⟨rfl, rfl⟩ := aG h
  cases hx with
  | emp ad => cases ad <;> exact ⟨rfl, .refl _⟩
 | str l => obtain ⟨rfl, rfl⟩ := aG h; cases hx; exact ⟨rfl, .refl _⟩
 | sl id off len cap sz =>
  obtain ⟨rfl, h1⟩ := eI h
  obtain ⟨cs, s1, h2, h3, ho1, _, _⟩ := M.aN h1 ho
  have go : ∀ (r : RB) (c : Nat), ρ id = some r → (Extern.Bytes.bytesOf (.slice (some ⟨r.b, off, none⟩) len c)).run P w = .ok ⟨⟨l⟩⟩ w ∧ fX s s' := by
   intro r c hρ
   obtain ⟨ad, xs, e, k1, k2, k3, k4, k5⟩ := iG h2 ho1 hr (.ptr id off r hρ)
   injection e with e
   injection e with e
   subst e
   obtain ⟨q1, q2⟩ := yZ (P := P) h3 ho k1 k3
   rw [k2] at q1
   exact ⟨q1, k5.trans q2⟩
  cases hx with
  | slx _ _ _ c _ r hρ hl => exact go r c hρ
  | slw _ _ _ c _ r hρ hl hs hc => exact go r c hρ
  | sl0 _ _ _ _ ad hc hn =>
   have hcs : cs = [] ∧ fX s s1 := by
    unfold bI at h2
    obtain ⟨b, s2, h4, h5, ho2, _, _⟩ := M.aN h2 ho1
    obtain ⟨hg, e1⟩ := eH h4
    obtain ⟨c, t, rfl, h6⟩ := iX h5
    obtain ⟨_, s3, h7, h8, ho3, _, _⟩ := M.aN h6 ho1
    obtain ⟨hb, e2⟩ := eO h7 ho3
    obtain ⟨rfl, rfl⟩ := aG h8
    have := bQ.gW (n := 0) (Nat.le_of_ble_eq_true hb)
    exact ⟨List.length_eq_zero_iff.1 this, e1.trans e2⟩
   obtain ⟨rfl, e⟩ := hcs
   unfold m8 at h3
   obtain ⟨_, s2, h4, h5, ho2, _, _⟩ := M.aN h3 ho
   obtain ⟨_, e1⟩ := eO h4 ho2
   obtain ⟨rfl, rfl⟩ := aG h5
   exact ⟨rfl, e.trans e1⟩
 | isl g sz off len =>
  obtain ⟨rfl, h1⟩ := eI h
  obtain ⟨cs, s1, h2, h3, ho1, _, _⟩ := M.aN h1 ho
  cases hx with
  | isl _ _ _ _ b o c g' hg hrr hl =>
   obtain ⟨ad, xs, e, k1, k2, k3, k4, k5⟩ := iG h2 ho1 hr (.ip g (off + len) off b o g' (fun j hj => hg j (by omega)) (fun j hj => hrr j (by omega)))
   injection e with e
   injection e with e
   subst e
   obtain ⟨q1, q2⟩ := yZ (P := P) h3 ho k1 k3
   rw [k2] at q1
   exact ⟨q1, k5.trans q2⟩
  | tC _ _ _ c ad =>
   unfold bI at h2
   obtain ⟨_, s3, h7, h8, ho3, _, _⟩ := M.aN h2 ho1
   obtain ⟨hb, e2⟩ := eO h7 ho3
   obtain ⟨rfl, rfl⟩ := aG h8
   unfold m8 at h3
   obtain ⟨_, s2, h4, h5, ho2, _, _⟩ := M.aN h3 ho
   obtain ⟨_, e1⟩ := eO h4 ho2
   obtain ⟨rfl, rfl⟩ := aG h5
   exact ⟨rfl, e2.trans e1⟩
 | _ => exact (aH h).elim
theorem rl2 {x y : a9} {xs : Array Value} (h : RL ρ m [x, y] xs) : ∃ a b, xs = #[a, b] ∧ R ρ m x a ∧ R ρ m y b := by
 obtain ⟨l, r⟩ := h
 obtain ⟨xl⟩ := xs
 match xl with
 | [] => simp at l
 | [_] => simp at l
 | [a, b] => exact ⟨a, b, rfl, r 0 _ _ rfl rfl, r 1 _ _ rfl rfl⟩
 | _ :: _ :: _ :: _ => simp at l
theorem lZ {fn : Func} (hf : P.funcs[f]? = some fn) (hname : (fn.name == "runtime.NumGoroutine") = false) (hb : fn.body.isNone = true) (hn : Extern.findNext fn = none) (he : Extern.find fn = some Extern.BytealgCompare.compare) : kS P f dK := by
 intro args s v s' h ho ρ m w xs hr hfr hx
 unfold dK at h
 split at h
 ·rename_i x y
  obtain ⟨a, s1, h1, h2, ho1, _, _⟩ := M.aN h ho
  obtain ⟨b, s2, h3, h4, ho2, _, _⟩ := M.aN h2 ho
  obtain ⟨rfl, rfl⟩ := aG h4
  obtain ⟨xa, xb, rfl, ra, rb⟩ := rl2 hx
  obtain ⟨q1, e1⟩ := wW (P := P) h1 ho1 hr ra
  obtain ⟨q2, e2⟩ := wW (P := P) h3 ho2 (hr.of_same e1) rb
  refine .inr ⟨_, w, ?_, ρ, eU.of_same hr (e1.trans e2), .int _ _⟩
  rw [run_callFunc_extern hf hname hb hn he]
  change Result.andThen (Sem.run P (do pure (goInt (Extern.BytealgCompare.cmp (← Extern.Bytes.bytesOf xa) (← Extern.Bytes.bytesOf xb)))) w) _ = _
  simp only [Sem.run_bind, q1, q2, Result.andThen_ok, Sem.run_pure, Lib.cmp_eq]
  rfl
 ·exact (aH h).elim
def gS (e : TypeId) : List a9 → M a9
 | [.sl id1 off1 len1 _ _, .sl id2 _ len2 _ _] => (ob ((id1.beq id2).not && (Nat.blt 0 len1 && Nat.blt 0 len2))).bind fun _ =>
   (fT id1).bind (cX fun c t => (ob (t.beq e)).bind fun _ => (fT id2).bind (cX fun c2 _ => (ob (Nat.blt 0 c2.size)).bind fun _ => M.pure (.bool false)))
 | _ => fail "overlaps"
theorem rF {fn : Func} {tS tR e : TypeId} {size : Nat} (hf : P.funcs[f]? = some fn) (hname : (fn.name == "runtime.NumGoroutine") = false) (hb : fn.body.isNone = true) (hn : Extern.findNext fn = none)
  (he : Extern.find fn = some (Extern.SlicesOverlaps.overlaps #[tS, tS] #[tR])) (ht : P.underlying tS = some (.slice e)) (hz : ∀ w, (Go.sizeOf e).run P w = .ok size w) (hne : P.underlying e ≠ some (.int .u8)) : kS P f (gS e) := by
 intro args s v s' h ho ρ m w xs hr hfr hx
 unfold gS at h
 split at h
 ·rename_i id1 off1 len1 cap1 sz1 id2 off2 len2 cap2 sz2
  obtain ⟨_, s1, h1, h2, ho1, _, _⟩ := M.aN h ho
  obtain ⟨hb1, e1⟩ := eO h1 ho1
  simp only [Bool.and_eq_true, Bool.not_eq_true'] at hb1
  obtain ⟨hid, hl1, hl2⟩ := hb1
  have hid : id1 ≠ id2 := fun e => by subst e; simp at hid
  have hl1 : 0 < len1 := Nat.le_of_ble_eq_true hl1
  have hl2 : 0 < len2 := Nat.le_of_ble_eq_true hl2
  obtain ⟨b1, s2, h3, h4, ho2, _, _⟩ := M.aN h2 ho
  obtain ⟨hg1, e2⟩ := eH h3
  obtain ⟨c1, t1, rfl, h5⟩ := iX h4
  obtain ⟨_, s3, h6, h7, ho3, _, _⟩ := M.aN h5 ho
  obtain ⟨hte, e3⟩ := eO h6 ho3
  obtain rfl := Nat.eq_of_beq_eq_true hte
  obtain ⟨b2, s4, h8, h9, ho4, _, _⟩ := M.aN h7 ho
  obtain ⟨hg2, e4⟩ := eH h8
  obtain ⟨c2, t2, rfl, h10⟩ := iX h9
  obtain ⟨_, s5, h11, h12, ho5, _, _⟩ := M.aN h10 ho
  obtain ⟨hc2, e5⟩ := eO h11 ho5
  have hc2 : 0 < c2.size := Nat.le_of_ble_eq_true hc2
  obtain ⟨rfl, rfl⟩ := aG h12
  obtain ⟨xa, xb, rfl, ra, rb⟩ := rl2 hx
  have hg1 : s.heap.get id1 = some (.row c1 t1) := by rw [← e1.heap]; exact hg1
  have hg2 : s.heap.get id2 = some (.row c2 t2) := by rw [← e1.heap, ← e2.heap, ← e3.heap]; exact hg2
  have slr : ∀ {id off len cap sz x}, R ρ m (.sl id off len cap sz) x → 0 < len → ∃ r cc, ρ id = some r ∧ x = .slice (some ⟨r.b, off, none⟩) len cc := by
   intro id off len cap sz x hx hl
   cases hx with
   | slx _ _ _ c _ r hρ hl => exact ⟨r, _, hρ, rfl⟩
   | slw _ _ _ c _ r hρ hl hs hc => exact ⟨r, _, hρ, rfl⟩
   | sl0 _ _ _ _ ad hc hn => exact absurd hl (Nat.lt_irrefl _)
  obtain ⟨r1, cc1, hρ1, rfl⟩ := slr ra hl1
  obtain ⟨r2, cc2, hρ2, rfl⟩ := slr rb hl2
  obtain ⟨arr1, fr1, k1, k2, k3, k4, k5, k6, k7⟩ := hr.row hg1 hρ1
  obtain ⟨arr2, fr2, q1, q2, q3, q4, q5, q6, q7⟩ := hr.row hg2 hρ2
  have hbb : r1.b ≠ r2.b := fun e => hid (hr.inj id1 id2 _ _ r1 r2 hg1 hg2 hρ1 hρ2 e)
  have hfr1 : fr1.1 = fr1.2 := k6.elim id fun q => absurd q.2 hne
  have hfz : ∀ j, w.frozen? ⟨r1.b, j, none⟩ = false := fun j => by
   unfold World.frozen?
   obtain ⟨lo, hi⟩ := fr1
   simp only at hfr1
   subst hfr1
   rw [k1]
   simp only [Bool.and_eq_false_iff, decide_eq_false_iff_not]
   omega
  have hs1 : w.shape? r1.b = some (t1, arr1.size) := by unfold World.shape?; rw [k1]
  have hs2 : w.shape? r2.b = some (t2, arr2.size) := by unfold World.shape?; rw [q1]
  refine .inr ⟨_, w, ?_, ρ, eU.of_same hr (((e1.trans e2).trans (e3.trans e4)).trans e5), .bool _⟩
  rw [run_callFunc_extern hf hname hb hn he, Lib.run_overlaps_apart w tS tR t1 ht size hz ⟨r1.b, off1, none⟩ ⟨r2.b, off2, none⟩ len1 cc1 len2 cc2 hbb t1 t2 arr1.size arr2.size hs1 hs2 (by omega) (hfz _) (hfz _)]
  rfl
 ·exact (aH h).elim
end
theorem Bytes.all {α : Type} {h : Hp} {n : Nat} {v : a9} {l : List UInt8} (hb : Bytes h v l) {f : List UInt8 → M α} {Q : α → Hp → Nat → Prop} : Wp ((iS v).bind f) h n Q ↔ Wp (f l) h n Q := by
 cases hb with
 | aV => simp only [iS, bind_pure]
 | isl g off l hf =>
  simp only [iS, bI, m8, bR, bind_assoc, bind_pure, eY, show (Nat.beq 1 1) = true from rfl]
  rw [jV g l.length off (l.map u8) (by simp) (fun j hj => by rw [hf j (by simpa using hj)]; simp)]
  simp only [sP, kU, true_and, Nat.ble_self_eq_true]
 | sl id off cap c e l hh hs hc =>
  simp only [iS, bI, m8, bR, bind_assoc, fI, hh, Option.some.injEq, exists_eq_left', cX, eY, show (Nat.beq 1 1) = true from rfl, bind_pure]
  have := bQ.sub_eq (c := c) (off := off) (l := l.map u8) (by simpa using hs) (fun j hj => by rw [hc j (by simpa using hj)]; simp)
  simp only [List.length_map] at this
  simp only [this, sP, kU, true_and]
  simp [hs]
end Go.Am
set_option linter.unusedSimpArgs false
set_option linter.unusedVariables false
set_option linter.defProp false
namespace Go.Am
open Go
def fW {α : Type} (l : List α) (k : Nat) (v : α) : List α := l.take k ++ v :: l.drop k
theorem jC {α : Type} (l : List α) (k : Nat) (v : α) : (fW l k v).length = l.length + 1 := by simp [fW]; omega
def Y4 (k : Int) (len : Nat) : Bool := decide (0 ≤ k ∧ k ≤ (len : Int))
def JR : M Nat := ⟨fun s => .ok s.next s, by
 intro s a s' h
 injection h with h1 h2
 subst h1; subst h2
 exact ⟨[], [], [], ⟨Nat.le_refl _, rfl, rfl, rfl, fun _ _ _ => rfl, fun _ h => (by cases h), fun t hn ho hg =>
  ⟨t, by rw [hn], hn, ho, rfl, rfl, rfl, fun id hid => hg id (.inr hid), fun _ _ _ => rfl⟩, id, fun _ h => (by cases h)⟩⟩⟩
theorem OC {n : Nat} {s s' : St} (h : JR.run s = .ok n s') : n = s.next ∧ fX s s' := by
 injection h with h1 h2
 subst h1; subst h2
 exact ⟨rfl, .refl _⟩
theorem MW {α : Type} {f : Nat → M α} {h : Hp} {n : Nat} {Q : α → Hp → Nat → Prop} : Wp (JR.bind f) h n Q ↔ Wp (f n) h n Q := by
 rw [dP]
 constructor
 ·intro hw
  obtain ⟨s, a, s', ⟨h1, h2, h3⟩, he, hq⟩ := hw
  have := he.run
  injection this with e1 e2
  subst e1; subst e2
  rw [h1, h2] at hq
  exact hq
 ·intro hw
  exact ⟨at0 h n, n, at0 h n, lW h n, ⟨rfl, ⟨[], rfl, rfl⟩, rfl⟩, hw⟩
def pN (e : TypeId) (i : TI) (at_ : Int) (v : a9) : M a9 := (ob (decide (at_ = 0))).bind fun _ => grown e i 1 [v]
def tF (e : TypeId) (i : TI) : List a9 → M a9
 | [s, .int .i64 at_, .sl xid 0 1 (some 1) 1] => JR.bind fun nx => (fT xid).bind (cX fun xc xt => (ob (Nat.blt xid nx && (Nat.blt 0 xc.size && (xt.beq e && bN (xc.at 0))))).bind fun _ => match s with
  | .aV => pN e i at_ (xc.at 0)
  | .emp => pN e i at_ (xc.at 0)
  | .sl id off len cap sz => bR sz 1 (match cap with
   | some m => (fT id).bind (cX fun c t => (ob (Nat.blt id nx && (m.beq 0 && (len.beq 0 && (t.beq e && off.ble c.size))))).bind fun _ => pN e i at_ (xc.at 0))
   | none => (fT id).bind (cX fun c t => (ob (Nat.blt id nx && (off.beq 0 && (t.beq e && (Nat.blt 0 c.size && (len.ble c.size && ((id.beq xid).not && (Y4 at_ len && (c.sub 0 len).all bN)))))))).bind fun _ =>
     (kill id).bind fun _ => grown e i (len + 1) (fW (c.sub 0 len) at_.toNat (xc.at 0))))
  | _ => fail "Insert")
 | _ => fail "Insert"
structure FX (E : Env) (f : FuncId) (e : TypeId) (i : TI) : Prop where
 nil : ∀ (h : Hp) (n : Nat) (s : a9) (xid : Nat) (xc : bQ), (s = .aV ∨ s = .emp ∨ ∃ id off c, s = .sl id off 0 (some 0) 1 ∧ h id = some (.row c e) ∧ off ≤ c.size) → h xid = some (.row xc e) → 0 < xc.size → bN (xc.at 0) = true → xid < n →
  Wp (bD E (evalW E) f [s, .int .i64 0, .sl xid 0 1 (some 1) 1]) h n fun v' h' n' => v' = .sl n 0 1 none 1 ∧ n' = n + 1 ∧ ∀ j, h' j = if j = n then some (.row (.l [xc.at 0]) e) else h j
 at_ : ∀ (h : Hp) (n : Nat) (id len C k xid : Nat) (cells : List a9) (xc : bQ), h id = some (.row (.l cells) e) → cells.length = C → len ≤ C → 0 < C → 2 * (len + 1) * i.bytes ≤ 281474976710656 → len + 1 ≤ 281474976710656 → k ≤ len → (cells.take len).all bN = true →
  h xid = some (.row xc e) → 0 < xc.size → bN (xc.at 0) = true → xid < n → id < n → xid ≠ id →
  Wp (bD E (evalW E) f [.sl id 0 len (some C) 1, .int .i64 (k : Nat), .sl xid 0 1 (some 1) 1]) h n fun v' h' n' =>
   (v' = .sl id 0 (len + 1) (some C) 1 ∧ n' = n ∧ len + 1 ≤ C ∧ ∃ cells', cells'.length = C ∧ cells'.take (len + 1) = fW (cells.take len) k (xc.at 0) ∧ ∀ j, h' j = if j = id then some (.row (.l cells') e) else h j) ∨
   (v' = .sl n 0 (len + 1) none 1 ∧ n' = n + 1 ∧ ∀ j, h' j = if j = n then some (.row (.l (fW (cells.take len) k (xc.at 0))) e) else h j)
section
variable {P : Program} {f : FuncId} {ρ : Ren} {m : Mem} {s s' : St} {w : World}
theorem Rel.IT {h h' : Nat → Option Blk} (hr : Rel P ρ m h w) {id : Nat} {c c2 : bQ} {t : TypeId} (hg : h id = some (.row c t)) {r : RB} (hρ : ρ id = some r) (hs : c2.size ≤ r.n) (hc : ∀ j, j < c2.size → c2.at j = .aA ∨ (j < c.size ∧ c2.at j = c.at j))
  (hh : ∀ j, h' j = if j = id then some (.row c2 t) else h j) : Rel P ρ m h' w where
 live := fun j b hj => by
  rw [hh j] at hj
  by_cases e : j = id
  ·subst e
   rw [if_pos rfl] at hj
   injection hj with hj
   subst hj
   obtain ⟨rb, o, q1, q2, q3, q4⟩ := hr.live j _ hg
   rw [hρ] at q1
   injection q1 with q1
   subst q1
   cases q3 with
   | row _ _ arr fr hs' hn hc' hrr hf =>
    refine ⟨r, _, hρ, q2, .row r c2 t arr fr hs' hn (by omega) (fun j x hj hx => ?_) hf, q4⟩
    rcases hc j hj with e | ⟨h1, h2⟩
    ·rw [e]; exact .aA _
    ·rw [h2]; exact hrr j x h1 hx
  ·rw [if_neg e] at hj
   exact hr.live j b hj
 inj := fun i j b1 b2 r1 r2 h1 h2 h3 h4 h5 => by
  have up : ∀ {k b}, h' k = some b → ∃ b', h k = some b' := fun {k b} hk => by
   rw [hh k] at hk
   by_cases e : k = id
   ·subst e; exact ⟨_, hg⟩
   ·rw [if_neg e] at hk; exact ⟨_, hk⟩
  obtain ⟨b1', h1'⟩ := up h1
  obtain ⟨b2', h2'⟩ := up h2
  exact hr.inj i j _ _ r1 r2 h1' h2' h3 h4 h5
 mem := hr.mem
theorem Rel.sub {h h' : Nat → Option Blk} (hr : Rel P ρ m h w) (hh : ∀ j b, h' j = some b → h j = some b) : Rel P ρ m h' w :=
 ⟨fun id b hb => hr.live id b (hh id b hb), fun i j b c r r' h1 h2 => hr.inj i j b c r r' (hh i b h1) (hh j c h2), hr.mem⟩
theorem CO.imp {xs : Array Value} {K K' : Value → World → Prop} (h : CO P f xs w K) (hk : ∀ v w', K v w' → K' v w') : CO P f xs w K' := by
 rcases h with ⟨h1, h2⟩ | ⟨v, w', h1, h2⟩
 ·exact .inl ⟨h1, h2.mono fun e w' ⟨v, h3, h4⟩ => ⟨v, h3, hk v w' h4⟩⟩
 ·exact .inr ⟨v, w', h1, hk v w' h2⟩
theorem rl3' {x y z : a9} {xs : Array Value} (h : RL ρ m [x, y, z] xs) : ∃ a b c, xs = #[a, b, c] ∧ R ρ m x a ∧ R ρ m y b ∧ R ρ m z c := by
 obtain ⟨l, r⟩ := h
 obtain ⟨xl⟩ := xs
 match xl with
 | [] => simp at l
 | [_] => simp at l
 | [_, _] => simp at l
 | [a, b, c] => exact ⟨a, b, c, rfl, r 0 _ _ rfl rfl, r 1 _ _ rfl rfl, r 2 _ _ rfl rfl⟩
 | _ :: _ :: _ :: _ :: _ => simp at l
theorem IQ {x y z : a9} {a b c : Value} (ha : R ρ m x a) (hb : R ρ m y b) (hc : R ρ m z c) : RL ρ m [x, y, z] #[a, b, c] := by
 refine ⟨rfl, fun i u v hu hv => ?_⟩
 match i with
 | 0 => simp at hu hv; subst hu; subst hv; exact ha
 | 1 => simp at hu hv; subst hu; subst hv; exact hb
 | 2 => simp at hu hv; subst hu; subst hv; exact hc
 | i + 3 => simp at hu
theorem BM {e : TypeId} {i : TI} {need : Nat} {cs : List a9} {v : a9} (h : (grown e i need cs).run s = .ok v s') (ho : cC s') :
  2 * need * i.bytes ≤ 281474976710656 ∧ need ≤ 281474976710656 ∧ v = .sl s.next 0 need none i.size ∧ s'.next = s.next + 1 ∧ ∀ j, s'.heap.get j = if j = s.next then some (.row (.l cs) e) else s.heap.get j := by
 obtain ⟨_, s1, h1, h2, ho1, _, _⟩ := M.aN h ho
 obtain ⟨hb, e1⟩ := eO h1 ho1
 obtain ⟨id, s2, h3, h4⟩ := M.aQ h2
 obtain ⟨rfl, rfl⟩ := aG h4
 obtain ⟨rfl, k1, k2⟩ := zY h3
 simp only [Bool.and_eq_true] at hb
 rw [e1.next] at k1 k2 ⊢
 rw [e1.heap] at k2
 exact ⟨Nat.le_of_ble_eq_true hb.1, Nat.le_of_ble_eq_true hb.2, rfl, k1, k2⟩
theorem CR {α : Type} {mm : M α} {h : Hp} {n : Nat} {Q : α → Hp → Nat → Prop} (hw : Wp mm h n Q) : ∃ a t, mm.run (at0 h n) = .ok a t ∧ cC t ∧ Q a t.heap.get t.next := by
 obtain ⟨a, t, he, hq⟩ := EJ hw (lW h n)
 obtain ⟨o, h1, h2⟩ := he.obs
 refine ⟨a, t, he.run, ?_, hq⟩
 unfold cC
 rw [h1]
 simpa [at0] using h2
end
theorem N9 {E : Env} {f : FuncId} {e : TypeId} {i : TI} (W : FX E f e i) (h1 : i.size = 1) : kS E.P f (tF e i) := by
 intro args s v s' h ho ρ m w xs hr hfr hx
 unfold tF at h
 split at h
 ·rename_i S at_ xid
  obtain ⟨nx, s0, g01, g02⟩ := M.aQ h
  obtain ⟨rfl, e0⟩ := OC g01
  obtain ⟨xb, s1, g1, g2, go1, _, gn1⟩ := M.aN g02 ho
  obtain ⟨hgx, e1⟩ := eH g1
  rw [e0.heap] at hgx
  obtain ⟨xc, xt, rfl, g3⟩ := iX g2
  obtain ⟨_, s2, g4, g5, go2, _, gn2⟩ := M.aN g3 ho
  obtain ⟨hb, e2⟩ := eO g4 go2
  simp only [Bool.and_eq_true] at hb
  obtain ⟨hxn, hxc, hxt, hone⟩ := hb
  have hxn : xid < s.next := Nat.le_of_ble_eq_true hxn
  have hxc : 0 < xc.size := Nat.le_of_ble_eq_true hxc
  obtain rfl := Nat.eq_of_beq_eq_true hxt
  have e12 := (e0.trans e1).trans e2
  obtain ⟨X, K, Y, rfl, rX, rK, rY⟩ := rl3' hx
  obtain rfl := rK.dB
  have fresh_live : ∀ {j b}, s.heap.get j = some b → s.next < s'.next → j ≠ s.next := fun {j b} hj hn e => by
   subst e
   obtain ⟨rb, o, q1, _⟩ := hr.live s.next b hj
   rw [hfr s.next ⟨Nat.le_refl _, hn⟩] at q1
   cases q1
  have new1 : ∀ {S' : a9}, R ρ m S' X → (S' = .aV ∨ S' = .emp ∨ ∃ id off c, S' = .sl id off 0 (some 0) 1 ∧ s.heap.get id = some (.row c xt) ∧ off ≤ c.size) → ∀ s3, fX s s3 → (pN xt i at_ (xc.at 0)).run s3 = .ok v s' →
    CO E.P f #[X, .int .i64 at_, Y] w fun x w' => ∃ ρ', eU E.P ρ m s w ρ' m s' w' ∧ R ρ' m v x := by
   intro S' rS hS s3 e3 hg
   obtain ⟨_, s4, k1, k2, ko4, _, _⟩ := M.aN hg ho
   obtain ⟨hat, e4⟩ := eO k1 ko4
   have hat := of_decide_eq_true hat
   subst hat
   obtain ⟨_, _, rfl, k3, k4⟩ := BM k2 ho
   have e34 := e3.trans e4
   rw [e34.next] at k3 k4 ⊢
   rw [e34.heap] at k4
   obtain ⟨v', t, r1, r2, rfl, r4, r5⟩ := CR (W.nil s.heap.get s.next S' xid xc hS hgx hxc hone hxn)
   have rr : Rel E.P ρ m (at0 s.heap.get s.next).heap.get w := hr.congr fun _ => rfl
   refine (nA pQ f _ _ _ _ r1 r2 ρ m w _ rr (fun id hid => hfr id ⟨hid.1, by have := hid.2; omega⟩) (IQ rS (.int _ _) rY)).imp fun x w' ⟨ρ', p, q⟩ => ?_
   refine ⟨ρ', ⟨p.ren, fun id hid => (p.new id hid).imp_right fun z => ⟨z.1, by have := z.2; omega⟩, p.mem, p.rel.sub fun j b hj => ?_, p.fr, by omega⟩, ?_⟩
   ·rw [k4] at hj; rw [r5]; exact hj
   ·rw [h1]; exact q
  split at g5
  ·exact new1 rX (.inl rfl) s2 e12 g5
  ·exact new1 rX (.inr (.inl rfl)) s2 e12 g5
  ·rename_i id off len cap sz
   obtain ⟨rfl, g6⟩ := eI g5
   cases cap with
   | some mm =>
    obtain ⟨b3, s3, g7, g8, go3, _, _⟩ := M.aN g6 ho
    obtain ⟨hg3, e3⟩ := eH g7
    obtain ⟨c, t, rfl, g9⟩ := iX g8
    obtain ⟨_, s4, g10, g11, go4, _, _⟩ := M.aN g9 ho
    obtain ⟨hb, e4⟩ := eO g10 go4
    simp only [Bool.and_eq_true] at hb
    obtain ⟨_, b1, b2, b3, b4⟩ := hb
    obtain rfl := Nat.eq_of_beq_eq_true b1
    obtain rfl := Nat.eq_of_beq_eq_true b2
    obtain rfl := Nat.eq_of_beq_eq_true b3
    rw [e12.heap] at hg3
    exact new1 rX (.inr (.inr ⟨id, off, c, rfl, hg3, Nat.le_of_ble_eq_true b4⟩)) s4 ((e12.trans e3).trans e4) g11
   | none =>
    obtain ⟨b3, s3, g7, g8, go3, _, _⟩ := M.aN g6 ho
    obtain ⟨hg3, e3⟩ := eH g7
    obtain ⟨c, t, rfl, g9⟩ := iX g8
    obtain ⟨_, s4, g10, g11, go4, _, _⟩ := M.aN g9 ho
    obtain ⟨hb, e4⟩ := eO g10 go4
    simp only [Bool.and_eq_true] at hb
    obtain ⟨b0, b1, b2, b3, b4, b5, b6, b7⟩ := hb
    have b0 : id < s.next := Nat.le_of_ble_eq_true b0
    obtain rfl := Nat.eq_of_beq_eq_true b1
    obtain rfl := Nat.eq_of_beq_eq_true b2
    have b3 : 0 < c.size := Nat.le_of_ble_eq_true b3
    have b4 := Nat.le_of_ble_eq_true b4
    have b5 : id ≠ xid := fun q => by subst q; simp at b5
    obtain ⟨b6, b8⟩ := of_decide_eq_true b6
    obtain ⟨k, rfl⟩ := Int.eq_ofNat_of_zero_le b6
    rw [e12.heap] at hg3
    have e14 := (e12.trans e3).trans e4
    obtain ⟨_, s5, g12, g13⟩ := M.aQ g11
    obtain ⟨_, k1, k2⟩ := F9 g12
    obtain ⟨c1, c2, rfl, k3, k4⟩ := BM g13 ho
    rw [k1, e14.next] at k3 k4 ⊢
    have k2 : ∀ j, s5.heap.get j = if j = id then none else s.heap.get j := fun j => by rw [k2, e14.heap]
    simp only [k2, Int.toNat_natCast] at k4
    have nid := fresh_live hg3 (by omega)
    have nxid := fresh_live hgx (by omega)
    obtain ⟨r, C, hρ, rfl, hC⟩ : ∃ r C, ρ id = some r ∧ X = .slice (some ⟨r.b, 0, none⟩) len C ∧ C = r.n ∧ r.s = 1 ∧ len ≤ C := by
     cases rX with
     | slw _ _ _ C _ r hρ hl hs hc => exact ⟨r, C, hρ, rfl, by omega, hs, hl⟩
     | sl0 _ _ _ _ ad hc hn =>
      obtain ⟨r, q1, q2⟩ := hn rfl
      obtain ⟨arr, fr, _, _, p3, p4, _⟩ := hr.row hg3 q1
      omega
    obtain ⟨rfl, hs1, hlC⟩ := hC
    obtain ⟨arr, fr, p1, p2, p3, p4, p5, p6, p7⟩ := hr.row hg3 hρ
    let cells : List a9 := c.sub 0 c.size ++ List.replicate (r.n - c.size) .aA
    let cc : bQ := .l cells
    let hh : Hp := fun j => if j = id then some (.row cc t) else s.heap.get j
    have hl0 : (c.sub 0 c.size).length = c.size := bQ.gW (by omega)
    have hcl : cells.length = r.n := by
     show (c.sub 0 c.size ++ List.replicate (r.n - c.size) a9.aA).length = _
     rw [List.length_append, hl0, List.length_replicate]; omega
    have hcg : ∀ j, j < c.size → cells[j]? = some (c.at j) := fun j hj => by
     show (c.sub 0 c.size ++ List.replicate (r.n - c.size) a9.aA)[j]? = _
     rw [List.getElem?_append_left (by omega), bQ.uK (c := c) (by omega) hj, Nat.zero_add]
    have hcs : cells.take len = c.sub 0 len := by
     apply List.ext_getElem?
     intro j
     by_cases hj : j < len
     ·rw [List.getElem?_take, if_pos hj, hcg j (by omega), bQ.uK (c := c) (by omega) hj, Nat.zero_add]
     ·rw [List.getElem?_eq_none (by rw [List.length_take]; omega), List.getElem?_eq_none (by rw [bQ.gW (by omega)]; omega)]
    have rr : Rel E.P ρ m (at0 hh s.next).heap.get w := by
     refine hr.IT (c2 := cc) hg3 hρ (by show cells.length ≤ _; omega) (fun j hj => ?_) (fun j => rfl)
     have hj : j < cells.length := hj
     by_cases q : j < c.size
     ·refine .inr ⟨q, ?_⟩
      show nth cells j .aA = _
      have := oN cells j hj
      rw [hcg j q] at this
      injection this with this
      exact this.symm
     ·refine .inl ?_
      show nth cells j .aA = _
      have := oN cells j hj
      rw [show cells = c.sub 0 c.size ++ List.replicate (r.n - c.size) a9.aA from rfl, List.getElem?_append_right (by omega), List.getElem?_replicate, if_pos (by omega)] at this
      injection this with this
      exact this.symm
    have hgx' : hh xid = some (.row xc t) := by show (if xid = id then _ else _) = _; rw [if_neg (Ne.symm b5)]; exact hgx
    obtain ⟨v', u, r1, r2, r3⟩ := CR (W.at_ hh s.next id len r.n k xid cells xc (if_pos rfl) hcl hlC (by omega) c1 c2 (by omega) (by rw [hcs]; exact b7) hgx' hxc hone hxn b0 (Ne.symm b5))
    rw [hcs] at r3
    have hun : u.next ≤ s.next + 1 := by rcases r3 with ⟨_, q, _⟩ | ⟨_, q, _⟩ <;> omega
    refine (nA pQ f _ _ _ _ r1 r2 ρ m w _ rr (fun id hid => hfr id ⟨hid.1, by have := hid.2; omega⟩) (IQ (.slx id 0 len r.n 1 r hρ hlC) (.int _ _) rY)).imp fun x w' ⟨ρ', p, q⟩ => ?_
    rcases r3 with ⟨rfl, q2, q3, c', q4, q5, q6⟩ | ⟨rfl, q2, q6⟩
    ·have hρ' : ρ' id = some r := p.ren _ _ hρ
     have hnew : ρ' s.next = none := by
      cases he : ρ' s.next with
      | none => rfl
      | some z =>
       rcases p.new s.next (by rw [he]; simp) with y | y
       ·exact absurd (hfr s.next ⟨Nat.le_refl _, by omega⟩) y
       ·have := y.2; simp only [q2] at this; exact absurd this (Nat.lt_irrefl _)
     have hlen : (fW (c.sub 0 len) k (xc.at 0)).length = len + 1 := by rw [jC, bQ.gW (by omega)]
     have rel2 := p.rel.IT (id := id) (c := .l c') (c2 := .l (fW (c.sub 0 len) k (xc.at 0))) (t := t) (r := r) (h' := fun j => if j = id then some (.row (.l (fW (c.sub 0 len) k (xc.at 0))) t) else u.heap.get j) (by rw [q6, if_pos rfl]) hρ'
      (by show (fW (c.sub 0 len) k (xc.at 0)).length ≤ _; omega)
      (fun j hj => by
       have hj : j < len + 1 := by rw [← hlen]; exact hj
       have hj2 : j < c'.length := by omega
       refine .inr ⟨hj2, ?_⟩
       show nth (fW (c.sub 0 len) k (xc.at 0)) j .aA = nth c' j .aA
       have z1 := oN (fW (c.sub 0 len) k (xc.at 0)) j (by omega)
       have z2 := oN c' j hj2
       rw [← q5, List.getElem?_take, if_pos hj, z2] at z1
       injection z1 with z1
       rw [q5] at z1
       exact z1.symm) (fun j => rfl)
     have rel3 := rel2.rename (h' := s'.heap.get) (id := id) (id' := s.next) (b := .row (.l (fW (c.sub 0 len) k (xc.at 0))) t) (r := r) (if_pos rfl) hρ' hnew (fun j => by
      rw [k4 j]
      by_cases y1 : j = s.next
      ·simp [y1]
      ·by_cases y2 : j = id
       ·simp [y1, y2]
       ·simp only [if_neg y1, if_neg y2]
        rw [q6 j, if_neg y2]
        exact (if_neg y2).symm)
     have le2 : gU ρ' (ρ'.put s.next r) := gU.put hnew
     refine ⟨ρ'.put s.next r, ⟨fun j z hz => le2 _ _ (p.ren j z hz), fun j hj => ?_, p.mem, rel3, p.fr, by omega⟩, ?_⟩
     ·by_cases y : j = s.next
      ·exact .inr ⟨by omega, by omega⟩
      ·have : ρ' j ≠ none := by unfold Ren.put at hj; rwa [if_neg y] at hj
       exact (p.new j this).imp_right fun z => ⟨z.1, by have := z.2; simp only [q2] at this; omega⟩
     ·cases q with
      | slx _ _ _ C2 _ r2 hρ2 hl2 =>
       rw [hρ'] at hρ2
       injection hρ2 with hρ2
       subst hρ2
       rw [h1]
       exact .slw s.next 0 (len + 1) _ 1 r (by unfold Ren.put; rw [if_pos rfl]) hl2 hs1 (by omega)
    ·refine ⟨ρ', ⟨p.ren, fun id hid => (p.new id hid).imp_right fun z => ⟨z.1, by have := z.2; omega⟩, p.mem, p.rel.sub fun j b hj => ?_, p.fr, by omega⟩, ?_⟩
     ·rw [k4] at hj
      rw [q6]
      by_cases y1 : j = s.next
      ·rw [if_pos y1] at hj ⊢; exact hj
      ·rw [if_neg y1] at hj ⊢
       by_cases y2 : j = id
       ·rw [if_pos y2] at hj; cases hj
       ·rw [if_neg y2] at hj
        show (if j = id then _ else _) = _
        rw [if_neg y2]; exact hj
     ·rw [h1]; exact q
  ·exact (aH g5).elim
 ·exact (aH h).elim
theorem AV {E : Env} {f : FuncId} {act : List a9 → M a9} (W : ∀ args s v s', (act args).run s = .ok v s' → cC s' → fX s s' ∧ Wp (bD E (evalW E) f args) s.heap.get s.next fun v' h' n' => v' = v ∧ h' = s.heap.get ∧ n' = s.next) : kS E.P f act := by
 intro args s v s' h ho ρ m w xs hr hfr hx
 obtain ⟨e, hw⟩ := W args s v s' h ho
 obtain ⟨v', t, r1, r2, rfl, r4, r5⟩ := CR hw
 have rr : Rel E.P ρ m (at0 s.heap.get s.next).heap.get w := hr.congr fun _ => rfl
 have no : ∀ id, ¬ New (at0 s.heap.get s.next) t id := fun id hid => by
  have h1 : s.next ≤ id := hid.1
  have h2 := hid.2
  omega
 refine (nA pQ f _ _ _ _ r1 r2 ρ m w _ rr (fun id hid => absurd hid (no id)) hx).imp fun x w' ⟨ρ', p, q⟩ => ?_
 refine ⟨ρ', ⟨p.ren, fun id hid => (p.new id hid).elim .inl fun z => absurd z (no id), p.mem, p.rel.congr fun id => ?_, p.fr, by rw [e.next]; exact Nat.le_refl _⟩, q⟩
 rw [e.heap, r4]
theorem z4 {cs : List a9} {l : List UInt8} {s s' : St} (h : (m8 cs).run s = .ok l s') (ho : cC s') : fX s s' ∧ cs.all isByte = true ∧ l = cs.map toByte := by
 unfold m8 at h
 obtain ⟨_, s1, h1, h2, ho1, _, _⟩ := M.aN h ho
 obtain ⟨hall, e1⟩ := eO h1 ho1
 obtain ⟨rfl, rfl⟩ := aG h2
 exact ⟨e1, hall, rfl⟩
theorem wX {a : a9} {l : List UInt8} {s s' : St} (h : (iS a).run s = .ok l s') (ho : cC s') : fX s s' ∧ ∀ {α : Type} {f : List UInt8 → M α} {n : Nat} {Q : α → Hp → Nat → Prop}, Wp (f l) s.heap.get n Q → Wp ((iS a).bind f) s.heap.get n Q := by
 cases a with
 | aV => obtain ⟨rfl, rfl⟩ := aG h; exact ⟨.refl _, fun hw => by simp only [iS, bind_pure]; exact hw⟩
 | emp => obtain ⟨rfl, rfl⟩ := aG h; exact ⟨.refl _, fun hw => by simp only [iS, bind_pure]; exact hw⟩
 | str l => obtain ⟨rfl, rfl⟩ := aG h; exact ⟨.refl _, fun hw => by simp only [iS, bind_pure]; exact hw⟩
 | sl id off len cap sz =>
  obtain ⟨rfl, h1⟩ := eI h
  obtain ⟨cs, s1, h2, h3, ho1, _, _⟩ := M.aN h1 ho
  obtain ⟨e3, q1, q2⟩ := z4 h3 ho
  unfold bI at h2
  obtain ⟨b, s2, h4, h5, ho2, _, _⟩ := M.aN h2 ho1
  obtain ⟨hg, e1⟩ := eH h4
  obtain ⟨c, t, rfl, h6⟩ := iX h5
  obtain ⟨_, s3, h7, h8, ho3, _, _⟩ := M.aN h6 ho1
  obtain ⟨hb, e2⟩ := eO h7 ho3
  obtain ⟨rfl, rfl⟩ := aG h8
  refine ⟨(e1.trans e2).trans e3, fun hw => ?_⟩
  subst q2
  simp only [iS, bI, m8, bR, bind_assoc, fI, hg, Option.some.injEq, exists_eq_left', cX, eY, show (Nat.beq 1 1) = true from rfl, bind_pure, hb, q1, true_and]
  exact hw
 | isl g sz off len =>
  obtain ⟨rfl, h1⟩ := eI h
  obtain ⟨cs, s1, h2, h3, ho1, _, _⟩ := M.aN h1 ho
  obtain ⟨e3, q1, q2⟩ := z4 h3 ho
  unfold bI at h2
  obtain ⟨_, s3, h7, h8, ho3, _, _⟩ := M.aN h2 ho1
  obtain ⟨hb, e2⟩ := eO h7 ho3
  obtain ⟨rfl, rfl⟩ := aG h8
  refine ⟨e2.trans e3, fun hw => ?_⟩
  subst q2
  simp only [iS, bI, m8, bR, bind_assoc, eY, show (Nat.beq 1 1) = true from rfl, bind_pure, hb, q1, true_and]
  exact hw
 | _ => exact (aH h).elim
theorem CA {x y : a9} {v : a9} {s s' : St} (h : (dK [x, y]).run s = .ok v s') (ho : cC s') : fX s s' ∧ Wp (dK [x, y]) s.heap.get s.next fun v' h' n' => v' = v ∧ h' = s.heap.get ∧ n' = s.next := by
 unfold dK at h
 obtain ⟨a, s1, h1, h2, ho1, _, _⟩ := M.aN h ho
 obtain ⟨b, s2, h3, h4, ho2, _, _⟩ := M.aN h2 ho
 obtain ⟨rfl, rfl⟩ := aG h4
 obtain ⟨e1, q1⟩ := wX h1 ho1
 obtain ⟨e2, q2⟩ := wX h3 ho2
 refine ⟨e1.trans e2, ?_⟩
 unfold dK
 refine q1 ?_
 rw [e1.heap] at q2
 exact q2 (wp_pure.2 ⟨rfl, rfl, rfl⟩)
theorem wK {h : Hp} {n : Nat} {x y : a9} {a b : List UInt8} (hx : Bytes h x a) (hy : Bytes h y b) : Rd (dK [x, y]) h n (rid y ++ rid x) (.int .i64 (Lib.compareBytes a b)) := by
 have one : ∀ {v : a9} {l : List UInt8}, Bytes h v l → Rd (iS v) h n (rid v) l := fun {v l} hb => by
  cases hb with
  | aV => exact Rd.pure _
  | isl g off l hf =>
   simp only [iS, bI, m8, bR, show (Nat.beq 1 1) = true from rfl]
   rw [jV g l.length off (l.map u8) (by simp) (fun j hj => by rw [hf j (by simpa using hj)]; simp)]
   refine Rd.bind (i1 := []) (i2 := []) (Rd.bind (i1 := []) (i2 := []) (Rd.ob (dC (Nat.le_refl _))) (Rd.pure _)) ?_
   refine Rd.bind (i1 := []) (i2 := []) (Rd.ob (sP l)) ?_
   rw [kU]
   exact Rd.pure _
  | sl id off cap c e l hh hs hc =>
   have := bQ.sub_eq (c := c) (off := off) (l := l.map u8) (by simpa using hs) (fun j hj => by rw [hc j (by simpa using hj)]; simp)
   simp only [List.length_map] at this
   simp only [iS, bI, m8, bR, show (Nat.beq 1 1) = true from rfl]
   refine Rd.bind (i1 := [id]) (i2 := []) (a := l.map u8) (Rd.bind (i1 := [id]) (i2 := []) (Rd.get hh) ?_) ?_
   ·simp only [cX]
    refine Rd.bind (i1 := []) (i2 := []) (Rd.ob (dC hs)) ?_
    rw [this]
    exact Rd.pure _
   ·refine Rd.bind (i1 := []) (i2 := []) (Rd.ob (sP l)) ?_
    rw [kU]
    exact Rd.pure _
 unfold dK
 refine Rd.bind (i2 := rid y) (one hx) ?_
 exact Rd.bind (i1 := rid y) (i2 := []) (one hy) (Rd.pure _)
def rle : Bool → List Nat → List Bool
 | _, [] => []
 | b, n :: l => List.replicate n b ++ rle (!b) l
abbrev T := true
abbrev F := false
end Go.Am
set_option linter.unusedSimpArgs false
set_option linter.unusedVariables false
namespace Go.Am
open Go
variable {E : Env} {h : Hp} {n : Nat}
def iD (b : Nat) : List (a9 × a9) → List Ent
  | [] => []
  | e :: es => (e.1, e.2, b) :: iD (b + 1) es
theorem sF : ∀ (l : List (a9 × a9)) (b : Nat), (iD b l).length = l.length
  | [], _ => rfl
  | _ :: l, b => by simp [iD, sF l]
theorem C0 : ∀ (l : List (a9 × a9)) (b i : Nat), (iD b l)[i]? = l[i]?.map fun e => (e.1, e.2, b + i)
  | [], _, _ => by simp [iD]
  | e :: l, b, 0 => by simp [iD]
  | e :: l, b, i + 1 => by
    simp only [iD, List.getElem?_cons_succ, C0 l (b + 1) i]
    congr 1
    funext e
    rw [show b + 1 + i = b + (i + 1) by omega]
theorem C1 : ∀ (l m : List (a9 × a9)) (b : Nat), iD b (l ++ m) = iD b l ++ iD (b + l.length) m
  | [], m, b => by simp [iD]
  | e :: l, m, b => by simp only [List.cons_append, iD, C1 l m (b + 1), List.length_cons]; rw [show b + 1 + l.length = b + (l.length + 1) by omega]
theorem FR : ∀ (l : List (a9 × a9)) (b i j : Nat), i < l.length → qX ((b + i : Nat) : Int) (iD b l) j = some (j + i)
  | [], _, i, _, h => by simp at h
  | e :: l, b, 0, j, _ => by simp [iD, qX]
  | e :: l, b, i + 1, j, h => by
    have : ((b : Int) == ((b + (i + 1) : Nat) : Int)) = false := by
      rw [beq_eq_false_iff_ne]; omega
    simp only [iD, qX, this]
    have := FR l (b + 1) i (j + 1) (by simpa using h)
    rw [show b + (i + 1) = b + 1 + i by omega, this]
    congr 1; omega
theorem BZ : ∀ (l : List (a9 × a9)) (b i : Nat) (v : a9), qN (iD b l) i v = iD b (l.modify i fun e => (e.1, v))
  | [], _, i, _ => by cases i <;> rfl
  | e :: l, b, 0, v => by simp [iD, qN]
  | e :: l, b, i + 1, v => by
    have := BZ l (b + 1) i v
    simp only [qN] at this
    simp only [iD, qN, List.modify_succ_cons, this]
def fN (p : a9 → Bool) : List (a9 × a9) → Nat → Option (Nat × a9)
  | [], _ => none
  | e :: es, i => if p e.1 then some (i, e.2) else fN p es (i + 1)
theorem pP {kt : TypeId} {k : a9} {p : a9 → Bool} : ∀ (l : List (a9 × a9)) (b i : Nat), (∀ e ∈ l, bJ E kt k e.1 = M.pure (p e.1)) → mY E kt k (iD b l) i = M.pure (fN p l i)
  | [], _, _, _ => rfl
  | e :: l, b, i, h => by
    simp only [iD, mY, h e (List.mem_cons_self ..), bind_pure, fN]
    cases p e.1 with
    | true => simp
    | false => simp only [Bool.false_eq_true, if_false]; exact pP l (b + 1) (i + 1) fun e he => h e (List.mem_cons_of_mem _ he)
theorem xA {p : a9 → Bool} : ∀ {l : List (a9 × a9)} {i j : Nat} {v : a9}, fN p l i = some (j, v) → ∃ q k, j = i + q ∧ l[q]? = some (k, v) ∧ p k = true
  | [], _, _, _, h => by simp [fN] at h
  | e :: l, i, j, v, h => by
    simp only [fN] at h
    split at h
    · rename_i c
      injection h with h; injection h with h1 h2
      subst h1; subst h2
      exact ⟨0, e.1, rfl, rfl, c⟩
    · obtain ⟨q, k, h1, h2, h3⟩ := xA h
      exact ⟨q + 1, k, by omega, h2, h3⟩
section
variable {t kt et : TypeId} {k : a9} {p : a9 → Bool} {id b ck : Nat} {l : List (a9 × a9)}
def gV (h : Hp) (id b : Nat) (l : List (a9 × a9)) : Prop := h id = some (.map (iD b l) (b + l.length))
theorem gV.aX {h' : Hp} (m : gV h id b l) (hk : h' id = h id) : gV h' id b l := hk.trans m
theorem gV.lookup (m : gV h id b l) (ht : und E t = M.pure (.map kt et)) (hk : iZ E 100 kt k = M.pure ()) (hp : ∀ e ∈ l, bJ E kt k e.1 = M.pure (p e.1)) {z : a9} (hz : zeroOf E et = M.pure z) :
    Rd (j5 E t (.map id) k false) h n [id] (((fN p l 0).map (·.2)).getD z) := by
  simp only [j5, ht, bind_pure, DZ, bind_assoc]
  have : Rd ((fT id).bind fun a => (mC (fun es _ => M.pure es) a).bind fun es => (iZ E 100 kt k).bind fun _ => (mY E kt k es 0).bind fun r => match r with
      | some p => M.pure (okV false p.2 true)
      | none => (zeroOf E et).bind fun z => M.pure (okV false z false)) h n ([] ++ [id]) (((fN p l 0).map (·.2)).getD z) := by
    refine Rd.bind (Rd.get m) ?_
    simp only [mC, bind_pure, hk, pP l b 0 hp]
    cases fN p l 0 with
    | none => simp only [hz, bind_pure]; exact Rd.pure _
    | some x => exact Rd.pure _
  exact this
theorem gV.HK (m : gV h id b l) (ht : und E t = M.pure (.map kt et)) (hk : iZ E 100 kt k = M.pure ()) (hp : ∀ e ∈ l, bJ E kt k e.1 = M.pure (p e.1)) {i : Nat} {v : a9} (ha : fN p l 0 = some (i, v)) (hs : ∀ e, l[i]? = some e → sameKey e.1 k = true) :
    Wr (iU E t (.map id) k) h n [id] [id] (a9.tup [v, .int .i64 ((b + i : Nat) : Int)]) h := by
  have hu : Go.Am.upd h id (some (.map (iD b l) (b + l.length))) = h := l9 m
  obtain ⟨q, kk, e1, e2, e3⟩ := xA ha
  rw [Nat.zero_add] at e1
  subst e1
  have key : Wr ((fT id).bind (mC fun es ck => (iZ E 100 kt k).bind fun _ => (mY E kt k es 0).bind fun r => match r with
        | some p => (aZ "entry" es[p.1]?).bind fun e => match sameKey e.1 k with
          | true => (jP id (.map es ck)).bind fun _ => M.pure (a9.tup [p.2, .int .i64 e.2.2])
          | false => fail "a key that is not the same bit by bit"
        | none => (zeroOf E et).bind fun z => (jP id (.map (es ++ [(k, z, ck)]) (ck + 1))).bind fun _ => M.pure (a9.tup [z, .int .i64 ck]))) h n ([] ++ [id]) [id] (a9.tup [v, .int .i64 ((b + i : Nat) : Int)]) (Go.Am.upd h id (some (.map (iD b l) (b + l.length)))) := by
    refine Wr.bind (Rd.get m) ?_
    simp only [mC, hk, bind_pure, pP l b 0 hp, ha, C0, e2, Option.map_some, aZ, hs _ e2]
    exact (Wr.set m).ret
  rw [hu] at key
  simp only [iU, ht, bind_pure]
  exact key
theorem gV.HL (m : gV h id b l) (ht : und E t = M.pure (.map kt et)) (hk : iZ E 100 kt k = M.pure ()) (hp : ∀ e ∈ l, bJ E kt k e.1 = M.pure (p e.1)) (ha : fN p l 0 = none) {z : a9} (hz : zeroOf E et = M.pure z) :
    ∃ h2, Wr (iU E t (.map id) k) h n [id] [id] (a9.tup [z, .int .i64 ((b + l.length : Nat) : Int)]) h2 ∧ gV h2 id b (l ++ [(k, z)]) ∧ ∀ j, j ≠ id → h2 j = h j := by
  refine ⟨Go.Am.upd h id (some (.map (iD b l ++ [(k, z, b + l.length)]) (b + l.length + 1))), ?_, ?_, fun j hj => aP _ _ hj⟩
  · have key : Wr ((fT id).bind (mC fun es ck => (iZ E 100 kt k).bind fun _ => (mY E kt k es 0).bind fun r => match r with
        | some p => (aZ "entry" es[p.1]?).bind fun e => match sameKey e.1 k with
          | true => (jP id (.map es ck)).bind fun _ => M.pure (a9.tup [p.2, .int .i64 e.2.2])
          | false => fail "a key that is not the same bit by bit"
        | none => (zeroOf E et).bind fun z => (jP id (.map (es ++ [(k, z, ck)]) (ck + 1))).bind fun _ => M.pure (a9.tup [z, .int .i64 ck]))) h n ([] ++ [id]) [id] (a9.tup [z, .int .i64 ((b + l.length : Nat) : Int)]) (Go.Am.upd h id (some (.map (iD b l ++ [(k, z, b + l.length)]) (b + l.length + 1)))) := by
      refine Wr.bind (Rd.get m) ?_
      simp only [mC, hk, bind_pure, pP l b 0 hp, ha, hz]
      exact (Wr.set m).ret
    simp only [iU, ht, bind_pure]
    exact key
  · unfold gV
    rw [aW, C1, List.length_append]
    rfl
theorem gV.store (m : gV h id b l) {i : Nat} (hi : i < l.length) {v : a9} :
    ∃ h2, Wr (gT (.map id) (.int .i64 ((b + i : Nat) : Int)) v) h n [id] [id] undef h2 ∧ gV h2 id b (l.modify i fun e => (e.1, v)) ∧ ∀ j, j ≠ id → h2 j = h j := by
  refine ⟨Go.Am.upd h id (some (.map (qN (iD b l) i v) (b + l.length))), ?_, ?_, fun j hj => aP _ _ hj⟩
  · show Wr _ h n ([] ++ [id]) [id] undef _
    simp only [gT]
    refine Wr.bind (Rd.get m) ?_
    simp only [mC, cW, FR l b i 0 hi, aZ, bind_pure, Nat.zero_add]
    exact (Wr.set m).ret
  · unfold gV
    rw [aW, BZ, List.length_modify]
theorem gV.clear (m : gV h id b l) {ts : List TypeId} {t0 : TypeId} (ht : und E t0 = M.pure (.map kt et)) : ∃ h2, Wr (pD E (t0 :: ts) (.map id)) h n [id] [id] (a9.tup []) h2 ∧ gV h2 id (b + l.length) [] ∧ ∀ j, j ≠ id → h2 j = h j := by
  refine ⟨Go.Am.upd h id (some (.map [] (b + l.length))), ?_, aW _ _ _, fun j hj => aP _ _ hj⟩
  have : Wr ((fT id).bind (mC fun _ ck => (jP id (.map [] ck)).bind fun _ => M.pure (a9.tup []))) h n ([] ++ [id]) [id] (a9.tup []) (Go.Am.upd h id (some (.map [] (b + l.length)))) := by
    refine Wr.bind (Rd.get m) ?_
    simp only [mC]
    exact (Wr.set m).ret
  simp only [pD, ht, bind_pure]
  exact this
end
end Go.Am
set_option linter.unusedSimpArgs false
set_option linter.unusedVariables false
namespace Go.Am
open Go
variable {E : Env} {h : Hp} {n : Nat}
theorem Rd.wr {m : M a9} {ids : List Nat} {v : a9} (r : Rd m h n ids v) : Wr m h n ids [] v h := by
 refine ⟨fun s hs => ?_⟩
 obtain ⟨s', o, e, a, b, c, d, w, g, q⟩ := r.r s hs
 exact ⟨s', o, e, by rw [a, hs.hp], b, c, d, w, g, q⟩
def Ex (m : M a9) (h : Hp) (n : Nat) (v : a9) (h' : Hp) : Prop := ∃ rs ws, Wr m h n rs ws v h'
theorem Ex.rd {m : M a9} {ids : List Nat} {v : a9} (r : Rd m h n ids v) : Ex m h n v h := ⟨_, _, r.wr⟩
theorem Ex.wr {m : M a9} {rs ws : List Nat} {v : a9} {h' : Hp} (r : Wr m h n rs ws v h') : Ex m h n v h' := ⟨_, _, r⟩
theorem Ex.pure {v : a9} : Ex (M.pure v) h n v h := .rd (.pure v)
theorem kF {rec : Rec} {ops : List Oper} {o : Oper} {tm : List a9} (hg : o.guard = none) : opV E rec ops o tm = execOp E rec tm o.op := by
 unfold opV wanted
 rw [hg]; rfl
section
variable {rec : Rec} {ops : Array Oper} {J : Array Bool → List a9 → Hp → Prop}
theorem JB (hrec : nD E.P rec)
  (hs : ∀ listed tm h, listed.size = ops.size → J listed tm h → ∀ i o, ops[i]? = some o → listed.getD i false = false → (∀ e ∈ o.after, Region.binds .any e = true → listed.getD e.on false = true) →
   ∃ v h', Ex (opV E rec ops.toList o tm) h n v h' ∧ J (listed.setIfInBounds i true) (aD tm o.dst v) h')
  (hback : sM 0 ops.toList = true)
  {ρ₀ : Ren} {m : Mem} {w₀ : World} {a₀ : Act} {ro : Option Nat} {nn : Nat} {Q : Exit → Act → World → Prop}
  (hQ : ∀ listed tm h a w ρ, (∀ k, k < ops.size → listed.getD k false = true) → J listed tm h → Rel E.P ρ m h w → RL ρ m tm a.tmps → gU ρ₀ ρ → (∀ id, ρ id ≠ none → ρ₀ id ≠ none) → Fr w₀ w → a.defers = a₀.defers → Q .normal a w) :
  ∀ (fuel : Nat) (listed : Array Bool), listed.size = ops.size → (listed.toList.filter (!·)).length ≤ fuel → ∀ a w ρ h tm, J listed tm h → Rel E.P ρ m h w → RL ρ m tm a.tmps → gU ρ₀ ρ → (∀ id, ρ id ≠ none → ρ₀ id ≠ none) → Fr w₀ w → a.defers = a₀.defers →
   wpAnyIn (Fw ro) nn E.P .any ops Q fuel listed a w := by
 intro fuel
 have lst : ∀ (listed : Array Bool), listed.size = ops.size → ∀ k, listed.getD k true = false ↔ (k < ops.size ∧ ¬ listed.getD k false = true) := by
  intro listed hsz k
  by_cases hk : k < ops.size
  ·have : k < listed.size := by omega
   simp [Array.getD, this, hk]
  ·have : ¬ k < listed.size := by omega
   simp [Array.getD, this, hk]
 have done : ∀ (listed : Array Bool), listed.size = ops.size → Region.ready .any ops listed = [] → ∀ k, k < ops.size → listed.getD k false = true := by
  intro listed hsz hr k
  induction k using Nat.strongRecOn with
  | _ k ih =>
   intro hk
   by_cases hl : listed.getD k false = true
   ·exact hl
   ·have ho : ops[k]? = some ops[k] := Array.getElem?_eq_getElem hk
    have : k ∈ Region.ready .any ops listed := mem_ready.2 ⟨(lst listed hsz k).2 ⟨hk, hl⟩, ops[k], ho, fun e he hb => by
     have := qY ops.toList 0 hback k ops[k] (by rw [Array.getElem?_toList]; exact ho) e he hb
     exact ih e.on (by omega) (by omega)⟩
    rw [hr] at this
    cases this
 induction fuel with
 | zero =>
  intro listed hsz hc a w ρ h tm hj hr ht hle hnew hfr hd
  have hr' : Region.ready .any ops listed = [] := by
   cases hr' : Region.ready .any ops listed with
   | nil => rfl
   | cons j l =>
    have hj : j ∈ Region.ready .any ops listed := by rw [hr']; exact List.mem_cons_self
    obtain ⟨h1, o, h2, _⟩ := mem_ready.1 hj
    have hj' := (lst listed hsz j).1 h1
    have hlt : j < listed.size := by omega
    have := qV listed.toList (by omega) j listed[j] (by simp [hlt])
    exfalso
    apply hj'.2
    simp [Array.getD, hlt, this]
  exact ⟨hr', hQ listed tm h a w ρ (done listed hsz hr') hj hr ht hle hnew hfr hd⟩
 | succ fuel ih =>
  intro listed hsz hc a w ρ h tm hj hr ht hle hnew hfr hd
  refine ⟨fun hr' => hQ listed tm h a w ρ (done listed hsz hr') hj hr ht hle hnew hfr hd, fun i hi => ?_⟩
  obtain ⟨h1, o, h2, h3⟩ := mem_ready.1 hi
  have hi' := (lst listed hsz i).1 h1
  unfold wpOpIn
  rw [h2]
  obtain ⟨v, h', ⟨rs, ws, hwr⟩, hj'⟩ := hs listed tm h hsz hj i o h2 (by simpa using hi'.2) h3
  obtain ⟨s', ob, e1, e2, e3, e4, e5, e6, e7, e8⟩ := hwr.r (at0 h n) (lW h n)
  have hok : cC s' := by unfold cC; rw [e7]; simpa [at0] using e8
  have hnx : s'.next = n := e3
  refine zU hrec e1 hok (s := at0 h n) hr (fun id hid => by
   have h1 : n ≤ id := hid.1
   have h2 : id < s'.next := hid.2
   omega) ht (fun x w' ρ' hpost hx => ?_)
  refine ih (listed.setIfInBounds i true) (by simpa using hsz) ?_ _ w' ρ' h' (aD tm o.dst v) hj' (by rw [← e2]; exact hpost.rel) (uN (ht.mono hpost.ren hpost.mle) o.dst hx) (fun id r q => hpost.ren id r (hle id r q)) (fun id q => ?_) (hfr.trans hpost.fr) (by rw [Act.put_defers, hd])
  ·have hlt : i < listed.size := by omega
   have hf : listed.toList[i]? = some false := by
    have : listed.getD i true = listed[i] := by simp [Array.getD, hlt]
    rw [this] at h1
    simp [hlt, h1]
   have := count_set listed.toList i hf
   simp only [Array.toList_setIfInBounds]
   omega
  ·rcases hpost.new id q with q | q
   ·exact hnew id q
   ·have h1 : n ≤ id := q.1
    have h2 : id < s'.next := q.2
    omega
end
set_option linter.defProp false
def gL := (And.intro @List.getElem?_cons_succ.{0} (And.intro @List.getElem?_cons_zero.{0} (And.intro @List.append_eq.{0} (And.intro @List.cons_append.{0} (And.intro @List.nil_append.{0} (And.intro @List.append_nil.{0} (And.intro @List.length_cons.{0} @List.length_nil.{0})))))))
def gB := (And.intro @not_true_eq_false (And.intro @not_false_eq_true (And.intro @decide_true (And.intro @decide_false (And.intro @Bool.not_true (And.intro @Bool.not_false (And.intro @Bool.and_true (And.intro @Bool.true_and (And.intro @Bool.and_false (And.intro @Bool.false_and (And.intro @Bool.or_true (And.intro @Bool.true_or (And.intro @Bool.or_false (And.intro @Bool.false_or (And.intro @and_true (And.intro @true_and @and_self))))))))))))))))
def gI := (And.intro @nc0 (And.intro @nc1 (And.intro @cV (And.intro @cU (And.intro @cT (And.intro @Nat.zero_add (And.intro @Nat.add_zero (And.intro @Int.toNat_zero (And.intro @Nat.zero_mul @wp_pure)))))))))
def gF := (And.intro @wR (And.intro @wQ (And.intro @wP (And.intro @wO (And.intro @wN (And.intro @wM (And.intro @wU (And.intro @wT (And.intro @wL (And.intro @wS (And.intro @LN (And.intro @LO (And.intro @LQ @LP)))))))))))))
end Go.Am
set_option maxRecDepth 100000
set_option linter.defProp false
namespace Go.Am.Ytlgebaofkolkoaa.Ins
open Go Go.Am Go.Proofs
noncomputable def ty2 : TE Try.prog := ⟨2, ⟨Try.t2.desc, 1, 8, .int .i64 (0)⟩, ⟨⟨Try.t2, _, rfl, rfl, rfl, rfl, rfl⟩, rfl, rfl, Try.underlying2⟩⟩
noncomputable def ty3 : TE Try.prog := ⟨3, ⟨Try.t3.desc, 1, 8, .int .i64 (0)⟩, ⟨⟨Try.t3, _, rfl, rfl, rfl, rfl, rfl⟩, rfl, rfl, Try.underlying3⟩⟩
noncomputable def ty4 : TE Try.prog := ⟨4, ⟨Try.t4.desc, 1, 1, .bool false⟩, ⟨⟨Try.t4, _, rfl, rfl, rfl, rfl, rfl⟩, rfl, rfl, Try.underlying4⟩⟩
noncomputable def ty5 : TE Try.prog := ⟨5, ⟨Try.t5.desc, 1, 1, .int .u8 (0)⟩, ⟨⟨Try.t5, _, rfl, rfl, rfl, rfl, rfl⟩, rfl, rfl, Try.underlying5⟩⟩
noncomputable def QZ : TE Try.prog := ⟨22, ⟨Try.t22.desc, 1, 8, .eZ⟩, ⟨⟨Try.t22, _, rfl, rfl, rfl, rfl, rfl⟩, rfl, rfl, Try.underlying22⟩⟩
noncomputable def QY : TE Try.prog := ⟨24, ⟨Try.t24.desc, 32, 32, .agg [.int .u8 (0), .int .u8 (0), .int .u8 (0), .int .u8 (0), .int .u8 (0), .int .u8 (0), .int .u8 (0), .int .u8 (0), .int .u8 (0), .int .u8 (0), .int .u8 (0), .int .u8 (0), .int .u8 (0), .int .u8 (0), .int .u8 (0), .int .u8 (0), .int .u8 (0), .int .u8 (0), .int .u8 (0), .int .u8 (0), .int .u8 (0), .int .u8 (0), .int .u8 (0), .int .u8 (0), .int .u8 (0), .int .u8 (0), .int .u8 (0), .int .u8 (0), .int .u8 (0), .int .u8 (0), .int .u8 (0), .int .u8 (0)]⟩, ⟨⟨Try.t24, _, rfl, rfl, rfl, rfl, rfl⟩, rfl, rfl, Try.underlying24⟩⟩
noncomputable def QX : TE Try.prog := ⟨25, ⟨Try.t24.desc, 32, 32, .agg [.int .u8 (0), .int .u8 (0), .int .u8 (0), .int .u8 (0), .int .u8 (0), .int .u8 (0), .int .u8 (0), .int .u8 (0), .int .u8 (0), .int .u8 (0), .int .u8 (0), .int .u8 (0), .int .u8 (0), .int .u8 (0), .int .u8 (0), .int .u8 (0), .int .u8 (0), .int .u8 (0), .int .u8 (0), .int .u8 (0), .int .u8 (0), .int .u8 (0), .int .u8 (0), .int .u8 (0), .int .u8 (0), .int .u8 (0), .int .u8 (0), .int .u8 (0), .int .u8 (0), .int .u8 (0), .int .u8 (0), .int .u8 (0)]⟩, ⟨⟨Try.t25, _, rfl, rfl, rfl, rfl, rfl⟩, rfl, rfl, Try.underlying25⟩⟩
noncomputable def QW : TE Try.prog := ⟨26, ⟨Try.t26.desc, 1, 4, .int .u32 (0)⟩, ⟨⟨Try.t26, _, rfl, rfl, rfl, rfl, rfl⟩, rfl, rfl, Try.underlying26⟩⟩
noncomputable def QV : TE Try.prog := ⟨27, ⟨Try.t27.desc, 33, 36, .agg [.int .u8 (0), .int .u8 (0), .int .u8 (0), .int .u8 (0), .int .u8 (0), .int .u8 (0), .int .u8 (0), .int .u8 (0), .int .u8 (0), .int .u8 (0), .int .u8 (0), .int .u8 (0), .int .u8 (0), .int .u8 (0), .int .u8 (0), .int .u8 (0), .int .u8 (0), .int .u8 (0), .int .u8 (0), .int .u8 (0), .int .u8 (0), .int .u8 (0), .int .u8 (0), .int .u8 (0), .int .u8 (0), .int .u8 (0), .int .u8 (0), .int .u8 (0), .int .u8 (0), .int .u8 (0), .int .u8 (0), .int .u8 (0), .int .u32 (0)]⟩, ⟨⟨Try.t27, _, rfl, rfl, rfl, rfl, rfl⟩, rfl, rfl, Try.underlying27⟩⟩
noncomputable def G0 : TE Try.prog := ⟨28, ⟨Try.t27.desc, 33, 36, .agg [.int .u8 (0), .int .u8 (0), .int .u8 (0), .int .u8 (0), .int .u8 (0), .int .u8 (0), .int .u8 (0), .int .u8 (0), .int .u8 (0), .int .u8 (0), .int .u8 (0), .int .u8 (0), .int .u8 (0), .int .u8 (0), .int .u8 (0), .int .u8 (0), .int .u8 (0), .int .u8 (0), .int .u8 (0), .int .u8 (0), .int .u8 (0), .int .u8 (0), .int .u8 (0), .int .u8 (0), .int .u8 (0), .int .u8 (0), .int .u8 (0), .int .u8 (0), .int .u8 (0), .int .u8 (0), .int .u8 (0), .int .u8 (0), .int .u32 (0)]⟩, ⟨⟨Try.t28, _, rfl, rfl, rfl, rfl, rfl⟩, rfl, rfl, Try.underlying28⟩⟩
noncomputable def QU : TE Try.prog := ⟨29, ⟨Try.t29.desc, 1, 24, .aV⟩, ⟨⟨Try.t29, _, rfl, rfl, rfl, rfl, rfl⟩, rfl, rfl, Try.underlying29⟩⟩
noncomputable def QT : TE Try.prog := ⟨30, ⟨Try.t30.desc, 70, 128, .agg [.int .u8 (0), .int .u8 (0), .int .u8 (0), .int .u8 (0), .int .u8 (0), .int .u8 (0), .int .u8 (0), .int .u8 (0), .int .u8 (0), .int .u8 (0), .int .u8 (0), .int .u8 (0), .int .u8 (0), .int .u8 (0), .int .u8 (0), .int .u8 (0), .int .u8 (0), .int .u8 (0), .int .u8 (0), .int .u8 (0), .int .u8 (0), .int .u8 (0), .int .u8 (0), .int .u8 (0), .int .u8 (0), .int .u8 (0), .int .u8 (0), .int .u8 (0), .int .u8 (0), .int .u8 (0), .int .u8 (0), .int .u8 (0), .int .u32 (0), .int .i64 (0), .int .i64 (0), .aV, .bool false, .int .i64 (0), .int .u8 (0), .int .u8 (0), .int .u8 (0), .int .u8 (0), .int .u8 (0), .int .u8 (0), .int .u8 (0), .int .u8 (0), .int .u8 (0), .int .u8 (0), .int .u8 (0), .int .u8 (0), .int .u8 (0), .int .u8 (0), .int .u8 (0), .int .u8 (0), .int .u8 (0), .int .u8 (0), .int .u8 (0), .int .u8 (0), .int .u8 (0), .int .u8 (0), .int .u8 (0), .int .u8 (0), .int .u8 (0), .int .u8 (0), .int .u8 (0), .int .u8 (0), .int .u8 (0), .int .u8 (0), .int .u8 (0), .int .u8 (0)]⟩, ⟨⟨Try.t30, _, rfl, rfl, rfl, rfl, rfl⟩, rfl, rfl, Try.underlying30⟩⟩
noncomputable def fG : TE Try.prog := ⟨31, ⟨Try.t30.desc, 70, 128, .agg [.int .u8 (0), .int .u8 (0), .int .u8 (0), .int .u8 (0), .int .u8 (0), .int .u8 (0), .int .u8 (0), .int .u8 (0), .int .u8 (0), .int .u8 (0), .int .u8 (0), .int .u8 (0), .int .u8 (0), .int .u8 (0), .int .u8 (0), .int .u8 (0), .int .u8 (0), .int .u8 (0), .int .u8 (0), .int .u8 (0), .int .u8 (0), .int .u8 (0), .int .u8 (0), .int .u8 (0), .int .u8 (0), .int .u8 (0), .int .u8 (0), .int .u8 (0), .int .u8 (0), .int .u8 (0), .int .u8 (0), .int .u8 (0), .int .u32 (0), .int .i64 (0), .int .i64 (0), .aV, .bool false, .int .i64 (0), .int .u8 (0), .int .u8 (0), .int .u8 (0), .int .u8 (0), .int .u8 (0), .int .u8 (0), .int .u8 (0), .int .u8 (0), .int .u8 (0), .int .u8 (0), .int .u8 (0), .int .u8 (0), .int .u8 (0), .int .u8 (0), .int .u8 (0), .int .u8 (0), .int .u8 (0), .int .u8 (0), .int .u8 (0), .int .u8 (0), .int .u8 (0), .int .u8 (0), .int .u8 (0), .int .u8 (0), .int .u8 (0), .int .u8 (0), .int .u8 (0), .int .u8 (0), .int .u8 (0), .int .u8 (0), .int .u8 (0), .int .u8 (0)]⟩, ⟨⟨Try.t31, _, rfl, rfl, rfl, rfl, rfl⟩, rfl, rfl, Try.underlying31⟩⟩
noncomputable def QS : TE Try.prog := ⟨43, ⟨Try.t43.desc, 1, 24, .aV⟩, ⟨⟨Try.t43, _, rfl, rfl, rfl, rfl, rfl⟩, rfl, rfl, Try.underlying43⟩⟩
noncomputable def QR : TE Try.prog := ⟨44, ⟨Try.t44.desc, 1, 24, .aV⟩, ⟨⟨Try.t44, _, rfl, rfl, rfl, rfl, rfl⟩, rfl, rfl, Try.underlying44⟩⟩
noncomputable def QQ : TE Try.prog := ⟨45, ⟨Try.t45.desc, 37, 104, .agg [.int .i64 (0), .int .u8 (0), .int .u8 (0), .int .u8 (0), .int .u8 (0), .int .u8 (0), .int .u8 (0), .int .u8 (0), .int .u8 (0), .int .u8 (0), .int .u8 (0), .int .u8 (0), .int .u8 (0), .int .u8 (0), .int .u8 (0), .int .u8 (0), .int .u8 (0), .int .u8 (0), .int .u8 (0), .int .u8 (0), .int .u8 (0), .int .u8 (0), .int .u8 (0), .int .u8 (0), .int .u8 (0), .int .u8 (0), .int .u8 (0), .int .u8 (0), .int .u8 (0), .int .u8 (0), .int .u8 (0), .int .u8 (0), .int .u8 (0), .aV, .aV, .int .i64 (0), .int .i64 (0)]⟩, ⟨⟨Try.t45, _, rfl, rfl, rfl, rfl, rfl⟩, rfl, rfl, Try.underlying45⟩⟩
noncomputable def QP : TE Try.prog := ⟨46, ⟨Try.t45.desc, 37, 104, .agg [.int .i64 (0), .int .u8 (0), .int .u8 (0), .int .u8 (0), .int .u8 (0), .int .u8 (0), .int .u8 (0), .int .u8 (0), .int .u8 (0), .int .u8 (0), .int .u8 (0), .int .u8 (0), .int .u8 (0), .int .u8 (0), .int .u8 (0), .int .u8 (0), .int .u8 (0), .int .u8 (0), .int .u8 (0), .int .u8 (0), .int .u8 (0), .int .u8 (0), .int .u8 (0), .int .u8 (0), .int .u8 (0), .int .u8 (0), .int .u8 (0), .int .u8 (0), .int .u8 (0), .int .u8 (0), .int .u8 (0), .int .u8 (0), .int .u8 (0), .aV, .aV, .int .i64 (0), .int .i64 (0)]⟩, ⟨⟨Try.t46, _, rfl, rfl, rfl, rfl, rfl⟩, rfl, rfl, Try.underlying46⟩⟩
noncomputable def QO : TE Try.prog := ⟨47, ⟨Try.t47.desc, 65, 68, .agg [.int .u8 (0), .int .u8 (0), .int .u8 (0), .int .u8 (0), .int .u8 (0), .int .u8 (0), .int .u8 (0), .int .u8 (0), .int .u8 (0), .int .u8 (0), .int .u8 (0), .int .u8 (0), .int .u8 (0), .int .u8 (0), .int .u8 (0), .int .u8 (0), .int .u8 (0), .int .u8 (0), .int .u8 (0), .int .u8 (0), .int .u8 (0), .int .u8 (0), .int .u8 (0), .int .u8 (0), .int .u8 (0), .int .u8 (0), .int .u8 (0), .int .u8 (0), .int .u8 (0), .int .u8 (0), .int .u8 (0), .int .u8 (0), .int .u32 (0), .int .u8 (0), .int .u8 (0), .int .u8 (0), .int .u8 (0), .int .u8 (0), .int .u8 (0), .int .u8 (0), .int .u8 (0), .int .u8 (0), .int .u8 (0), .int .u8 (0), .int .u8 (0), .int .u8 (0), .int .u8 (0), .int .u8 (0), .int .u8 (0), .int .u8 (0), .int .u8 (0), .int .u8 (0), .int .u8 (0), .int .u8 (0), .int .u8 (0), .int .u8 (0), .int .u8 (0), .int .u8 (0), .int .u8 (0), .int .u8 (0), .int .u8 (0), .int .u8 (0), .int .u8 (0), .int .u8 (0), .int .u8 (0)]⟩, ⟨⟨Try.t47, _, rfl, rfl, rfl, rfl, rfl⟩, rfl, rfl, Try.underlying47⟩⟩
noncomputable def zG : TE Try.prog := ⟨48, ⟨Try.t47.desc, 65, 68, .agg [.int .u8 (0), .int .u8 (0), .int .u8 (0), .int .u8 (0), .int .u8 (0), .int .u8 (0), .int .u8 (0), .int .u8 (0), .int .u8 (0), .int .u8 (0), .int .u8 (0), .int .u8 (0), .int .u8 (0), .int .u8 (0), .int .u8 (0), .int .u8 (0), .int .u8 (0), .int .u8 (0), .int .u8 (0), .int .u8 (0), .int .u8 (0), .int .u8 (0), .int .u8 (0), .int .u8 (0), .int .u8 (0), .int .u8 (0), .int .u8 (0), .int .u8 (0), .int .u8 (0), .int .u8 (0), .int .u8 (0), .int .u8 (0), .int .u32 (0), .int .u8 (0), .int .u8 (0), .int .u8 (0), .int .u8 (0), .int .u8 (0), .int .u8 (0), .int .u8 (0), .int .u8 (0), .int .u8 (0), .int .u8 (0), .int .u8 (0), .int .u8 (0), .int .u8 (0), .int .u8 (0), .int .u8 (0), .int .u8 (0), .int .u8 (0), .int .u8 (0), .int .u8 (0), .int .u8 (0), .int .u8 (0), .int .u8 (0), .int .u8 (0), .int .u8 (0), .int .u8 (0), .int .u8 (0), .int .u8 (0), .int .u8 (0), .int .u8 (0), .int .u8 (0), .int .u8 (0), .int .u8 (0)]⟩, ⟨⟨Try.t48, _, rfl, rfl, rfl, rfl, rfl⟩, rfl, rfl, Try.underlying48⟩⟩
noncomputable def QN : TE Try.prog := ⟨56, ⟨Try.t56.desc, 1, 8, .eZ⟩, ⟨⟨Try.t56, _, rfl, rfl, rfl, rfl, rfl⟩, rfl, rfl, Try.underlying56⟩⟩
noncomputable def N2 : TE Try.prog := ⟨57, ⟨Try.t57.desc, 1, 24, .aV⟩, ⟨⟨Try.t57, _, rfl, rfl, rfl, rfl, rfl⟩, rfl, rfl, Try.underlying57⟩⟩
noncomputable def QM : TE Try.prog := ⟨58, ⟨Try.t58.desc, 2, 32, .agg [.eZ, .aV]⟩, ⟨⟨Try.t58, _, rfl, rfl, rfl, rfl, rfl⟩, rfl, rfl, Try.underlying58⟩⟩
noncomputable def QL : TE Try.prog := ⟨59, ⟨Try.t58.desc, 2, 32, .agg [.eZ, .aV]⟩, ⟨⟨Try.t59, _, rfl, rfl, rfl, rfl, rfl⟩, rfl, rfl, Try.underlying59⟩⟩
noncomputable def QK : TE Try.prog := ⟨60, ⟨Try.t60.desc, 37, 72, .agg [.int .i64 (0), .int .u8 (0), .int .u8 (0), .int .u8 (0), .int .u8 (0), .int .u8 (0), .int .u8 (0), .int .u8 (0), .int .u8 (0), .int .u8 (0), .int .u8 (0), .int .u8 (0), .int .u8 (0), .int .u8 (0), .int .u8 (0), .int .u8 (0), .int .u8 (0), .int .u8 (0), .int .u8 (0), .int .u8 (0), .int .u8 (0), .int .u8 (0), .int .u8 (0), .int .u8 (0), .int .u8 (0), .int .u8 (0), .int .u8 (0), .int .u8 (0), .int .u8 (0), .int .u8 (0), .int .u8 (0), .int .u8 (0), .int .u8 (0), .int .i64 (0), .int .i64 (0), .int .i64 (0), .int .i64 (0)]⟩, ⟨⟨Try.t60, _, rfl, rfl, rfl, rfl, rfl⟩, rfl, rfl, Try.underlying60⟩⟩
noncomputable def sW : TE Try.prog := ⟨61, ⟨Try.t60.desc, 37, 72, .agg [.int .i64 (0), .int .u8 (0), .int .u8 (0), .int .u8 (0), .int .u8 (0), .int .u8 (0), .int .u8 (0), .int .u8 (0), .int .u8 (0), .int .u8 (0), .int .u8 (0), .int .u8 (0), .int .u8 (0), .int .u8 (0), .int .u8 (0), .int .u8 (0), .int .u8 (0), .int .u8 (0), .int .u8 (0), .int .u8 (0), .int .u8 (0), .int .u8 (0), .int .u8 (0), .int .u8 (0), .int .u8 (0), .int .u8 (0), .int .u8 (0), .int .u8 (0), .int .u8 (0), .int .u8 (0), .int .u8 (0), .int .u8 (0), .int .u8 (0), .int .i64 (0), .int .i64 (0), .int .i64 (0), .int .i64 (0)]⟩, ⟨⟨Try.t61, _, rfl, rfl, rfl, rfl, rfl⟩, rfl, rfl, Try.underlying61⟩⟩
noncomputable def QJ : TE Try.prog := ⟨95, ⟨Try.t95.desc, 1, 24, .aV⟩, ⟨⟨Try.t95, _, rfl, rfl, rfl, rfl, rfl⟩, rfl, rfl, Try.underlying95⟩⟩
noncomputable def QI : TE Try.prog := ⟨96, ⟨Try.t96.desc, 1, 8, .dI⟩, ⟨⟨Try.t96, _, rfl, rfl, rfl, rfl, rfl⟩, rfl, rfl, Try.underlying96⟩⟩
noncomputable def QH : TE Try.prog := ⟨97, ⟨Try.t97.desc, 2, 32, .agg [.aV, .dI]⟩, ⟨⟨Try.t97, _, rfl, rfl, rfl, rfl, rfl⟩, rfl, rfl, Try.underlying97⟩⟩
noncomputable def QG : TE Try.prog := ⟨98, ⟨Try.t97.desc, 2, 32, .agg [.aV, .dI]⟩, ⟨⟨Try.t98, _, rfl, rfl, rfl, rfl, rfl⟩, rfl, rfl, Try.underlying98⟩⟩
noncomputable def QF : TE Try.prog := ⟨99, ⟨Try.t99.desc, 5, 72, .agg [.bool false, .aV, .dI, .aV, .dI]⟩, ⟨⟨Try.t99, _, rfl, rfl, rfl, rfl, rfl⟩, rfl, rfl, Try.underlying99⟩⟩
noncomputable def I6 : TE Try.prog := ⟨100, ⟨Try.t99.desc, 5, 72, .agg [.bool false, .aV, .dI, .aV, .dI]⟩, ⟨⟨Try.t100, _, rfl, rfl, rfl, rfl, rfl⟩, rfl, rfl, Try.underlying100⟩⟩
noncomputable def I5 : TE Try.prog := ⟨104, ⟨Try.t104.desc, 40, 128, .agg [.int .i64 (0), .int .i64 (0), .int .u8 (0), .int .u8 (0), .int .u8 (0), .int .u8 (0), .int .u8 (0), .int .u8 (0), .int .u8 (0), .int .u8 (0), .int .u8 (0), .int .u8 (0), .int .u8 (0), .int .u8 (0), .int .u8 (0), .int .u8 (0), .int .u8 (0), .int .u8 (0), .int .u8 (0), .int .u8 (0), .int .u8 (0), .int .u8 (0), .int .u8 (0), .int .u8 (0), .int .u8 (0), .int .u8 (0), .int .u8 (0), .int .u8 (0), .int .u8 (0), .int .u8 (0), .int .u8 (0), .int .u8 (0), .int .u8 (0), .int .u8 (0), .aV, .aV, .int .i64 (0), .int .i64 (0), .bool false, .int .i64 (0)]⟩, ⟨⟨Try.t104, _, rfl, rfl, rfl, rfl, rfl⟩, rfl, rfl, Try.underlying104⟩⟩
noncomputable def nX : TE Try.prog := ⟨128, ⟨Try.t128.desc, 1, 8, .eZ⟩, ⟨⟨Try.t128, _, rfl, rfl, rfl, rfl, rfl⟩, rfl, rfl, Try.underlying128⟩⟩
noncomputable def I4 : TE Try.prog := ⟨161, ⟨Try.t161.desc, 1, 8, .mT⟩, ⟨⟨Try.t161, _, rfl, rfl, rfl, rfl, rfl⟩, rfl, rfl, Try.underlying161⟩⟩
noncomputable def VJ : FE Try.prog := ⟨20, ⟨Try.f20.body.getD .skip, 11, [.tmp 2], some (rle true [1, 1, 1, 1, 1, 6])⟩, ⟨⟨Try.f20, Try.func20, rfl, rfl, rfl⟩, Try.call20⟩⟩
noncomputable def DQ : FE Try.prog := ⟨66, ⟨Try.f66.body.getD .skip, 12, [.tmp 2], some (rle true [1, 1, 1, 9])⟩, ⟨⟨Try.f66, Try.func66, rfl, rfl, rfl⟩, Try.call66⟩⟩
noncomputable def yM : FE Try.prog := ⟨104, ⟨Try.f104.body.getD .skip, 95, [.tmp 6], some (rle true [3, 3, 4, 6, 1, 5, 1, 8, 1, 36, 1, 26])⟩, ⟨⟨Try.f104, Try.func104, rfl, rfl, rfl⟩, Try.call104⟩⟩
noncomputable def KW : FE Try.prog := ⟨108, ⟨Try.f108.body.getD .skip, 8, [.tmp 4], some (rle true [2, 2, 1, 3])⟩, ⟨⟨Try.f108, Try.func108, rfl, rfl, rfl⟩, Try.call108⟩⟩
noncomputable def KE : tQ Try.prog := ⟨112, dK, lZ Try.func112 (by kernel_rfl) (by kernel_rfl) (by kernel_rfl) (by kernel_rfl)⟩
noncomputable def KD : tQ Try.prog := ⟨115, (gS 128), rF (tS := 95) (tR := 4) (e := 128) (size := 1) Try.func115 (by kernel_rfl) (by kernel_rfl) (by kernel_rfl) (by kernel_rfl) Try.underlying95 (fun w => nX.ok.dS) (fun h => TypeDesc.noConfusion (Option.some.inj (Try.underlying128.symm.trans h)))⟩
noncomputable def KC : tQ Try.prog := ⟨119, dK, lZ Try.func119 (by kernel_rfl) (by kernel_rfl) (by kernel_rfl) (by kernel_rfl)⟩
noncomputable def eqs : List (QE Try.prog) := [⟨25, by kernel_rfl, by kernel_rfl⟩, ⟨28, by kernel_rfl, by kernel_rfl⟩, ⟨61, by kernel_rfl, by kernel_rfl⟩]
noncomputable def env : Env := { P := Try.prog, mixed := by kernel_rfl, types := (.node 47 (.node 27 (.node 22 (.node 4 (.node 3 (.leaf ty2) (.leaf ty3)) (.node 5 (.leaf ty4) (.leaf ty5))) (.node 25 (.node 24 (.leaf QZ) (.leaf QY)) (.node 26 (.leaf QX) (.leaf QW)))) (.node 31 (.node 29 (.node 28 (.leaf QV) (.leaf G0)) (.node 30 (.leaf QU) (.leaf QT))) (.node 44 (.node 43 (.leaf fG) (.leaf QS)) (.node 45 (.leaf QR) (.node 46 (.leaf QQ) (.leaf QP)))))) (.node 95 (.node 58 (.node 56 (.node 48 (.leaf QO) (.leaf zG)) (.node 57 (.leaf QN) (.leaf N2))) (.node 60 (.node 59 (.leaf QM) (.leaf QL)) (.node 61 (.leaf QK) (.leaf sW)))) (.node 99 (.node 97 (.node 96 (.leaf QJ) (.leaf QI)) (.node 98 (.leaf QH) (.leaf QG))) (.node 104 (.node 100 (.leaf QF) (.leaf I6)) (.node 128 (.leaf I5) (.node 161 (.leaf nX) (.leaf I4))))))), funcs := (.node 104 (.node 66 (.leaf VJ) (.leaf DQ)) (.node 108 (.leaf yM) (.leaf KW))), BJ := [KE, KD, KC], eqs := eqs }
theorem TC : ∀ k, bV env.bW 20 k = true := fun _ => rfl
theorem D7 : ∀ k, bV env.bW 66 k = true := fun _ => rfl
theorem O6 : ∀ k, bV env.bW 104 k = true := fun _ => rfl
theorem NY : ∀ k, bV env.bW 108 k = true := fun _ => rfl
theorem ti2 : ti env 2 = M.pure ⟨Go.TypeDesc.int (Go.IntKind.i64), 1, 8, .int .i64 (0)⟩ := rfl
theorem ti3 : ti env 3 = M.pure ⟨Go.TypeDesc.int (Go.IntKind.i64), 1, 8, .int .i64 (0)⟩ := rfl
theorem ti4 : ti env 4 = M.pure ⟨Go.TypeDesc.bool, 1, 1, .bool false⟩ := rfl
theorem ti5 : ti env 5 = M.pure ⟨Go.TypeDesc.int (Go.IntKind.u8), 1, 1, .int .u8 (0)⟩ := rfl
theorem G3 : ti env 22 = M.pure ⟨Go.TypeDesc.pointer 59, 1, 8, .eZ⟩ := rfl
theorem R9 : ti env 24 = M.pure ⟨Go.TypeDesc.array 32 5, 32, 32, .agg [.int .u8 (0), .int .u8 (0), .int .u8 (0), .int .u8 (0), .int .u8 (0), .int .u8 (0), .int .u8 (0), .int .u8 (0), .int .u8 (0), .int .u8 (0), .int .u8 (0), .int .u8 (0), .int .u8 (0), .int .u8 (0), .int .u8 (0), .int .u8 (0), .int .u8 (0), .int .u8 (0), .int .u8 (0), .int .u8 (0), .int .u8 (0), .int .u8 (0), .int .u8 (0), .int .u8 (0), .int .u8 (0), .int .u8 (0), .int .u8 (0), .int .u8 (0), .int .u8 (0), .int .u8 (0), .int .u8 (0), .int .u8 (0)]⟩ := rfl
theorem mM : ti env 25 = M.pure ⟨Go.TypeDesc.array 32 5, 32, 32, .agg [.int .u8 (0), .int .u8 (0), .int .u8 (0), .int .u8 (0), .int .u8 (0), .int .u8 (0), .int .u8 (0), .int .u8 (0), .int .u8 (0), .int .u8 (0), .int .u8 (0), .int .u8 (0), .int .u8 (0), .int .u8 (0), .int .u8 (0), .int .u8 (0), .int .u8 (0), .int .u8 (0), .int .u8 (0), .int .u8 (0), .int .u8 (0), .int .u8 (0), .int .u8 (0), .int .u8 (0), .int .u8 (0), .int .u8 (0), .int .u8 (0), .int .u8 (0), .int .u8 (0), .int .u8 (0), .int .u8 (0), .int .u8 (0)]⟩ := rfl
theorem oD : ti env 26 = M.pure ⟨Go.TypeDesc.int (Go.IntKind.u32), 1, 4, .int .u32 (0)⟩ := rfl
theorem R8 : ti env 27 = M.pure ⟨Go.TypeDesc.struct #[⟨"Tx", 25, 0, false, "", "", 0⟩, ⟨"N", 26, 32, false, "", "", 32⟩], 33, 36, .agg [.int .u8 (0), .int .u8 (0), .int .u8 (0), .int .u8 (0), .int .u8 (0), .int .u8 (0), .int .u8 (0), .int .u8 (0), .int .u8 (0), .int .u8 (0), .int .u8 (0), .int .u8 (0), .int .u8 (0), .int .u8 (0), .int .u8 (0), .int .u8 (0), .int .u8 (0), .int .u8 (0), .int .u8 (0), .int .u8 (0), .int .u8 (0), .int .u8 (0), .int .u8 (0), .int .u8 (0), .int .u8 (0), .int .u8 (0), .int .u8 (0), .int .u8 (0), .int .u8 (0), .int .u8 (0), .int .u8 (0), .int .u8 (0), .int .u32 (0)]⟩ := rfl
theorem iK : ti env 28 = M.pure ⟨Go.TypeDesc.struct #[⟨"Tx", 25, 0, false, "", "", 0⟩, ⟨"N", 26, 32, false, "", "", 32⟩], 33, 36, .agg [.int .u8 (0), .int .u8 (0), .int .u8 (0), .int .u8 (0), .int .u8 (0), .int .u8 (0), .int .u8 (0), .int .u8 (0), .int .u8 (0), .int .u8 (0), .int .u8 (0), .int .u8 (0), .int .u8 (0), .int .u8 (0), .int .u8 (0), .int .u8 (0), .int .u8 (0), .int .u8 (0), .int .u8 (0), .int .u8 (0), .int .u8 (0), .int .u8 (0), .int .u8 (0), .int .u8 (0), .int .u8 (0), .int .u8 (0), .int .u8 (0), .int .u8 (0), .int .u8 (0), .int .u8 (0), .int .u8 (0), .int .u8 (0), .int .u32 (0)]⟩ := rfl
theorem uC : ti env 29 = M.pure ⟨Go.TypeDesc.slice 5, 1, 24, .aV⟩ := rfl
theorem R7 : ti env 30 = M.pure ⟨Go.TypeDesc.struct #[⟨"Point", 28, 0, false, "", "", 0⟩, ⟨"Made", 3, 33, false, "", "", 40⟩, ⟨"Value", 2, 34, false, "", "", 48⟩, ⟨"Script", 29, 35, false, "", "", 56⟩, ⟨"Base", 4, 36, false, "", "", 80⟩, ⟨"Spent", 3, 37, false, "", "", 88⟩, ⟨"Spender", 25, 38, false, "", "", 96⟩], 70, 128, .agg [.int .u8 (0), .int .u8 (0), .int .u8 (0), .int .u8 (0), .int .u8 (0), .int .u8 (0), .int .u8 (0), .int .u8 (0), .int .u8 (0), .int .u8 (0), .int .u8 (0), .int .u8 (0), .int .u8 (0), .int .u8 (0), .int .u8 (0), .int .u8 (0), .int .u8 (0), .int .u8 (0), .int .u8 (0), .int .u8 (0), .int .u8 (0), .int .u8 (0), .int .u8 (0), .int .u8 (0), .int .u8 (0), .int .u8 (0), .int .u8 (0), .int .u8 (0), .int .u8 (0), .int .u8 (0), .int .u8 (0), .int .u8 (0), .int .u32 (0), .int .i64 (0), .int .i64 (0), .aV, .bool false, .int .i64 (0), .int .u8 (0), .int .u8 (0), .int .u8 (0), .int .u8 (0), .int .u8 (0), .int .u8 (0), .int .u8 (0), .int .u8 (0), .int .u8 (0), .int .u8 (0), .int .u8 (0), .int .u8 (0), .int .u8 (0), .int .u8 (0), .int .u8 (0), .int .u8 (0), .int .u8 (0), .int .u8 (0), .int .u8 (0), .int .u8 (0), .int .u8 (0), .int .u8 (0), .int .u8 (0), .int .u8 (0), .int .u8 (0), .int .u8 (0), .int .u8 (0), .int .u8 (0), .int .u8 (0), .int .u8 (0), .int .u8 (0), .int .u8 (0)]⟩ := rfl
theorem dY : ti env 31 = M.pure ⟨Go.TypeDesc.struct #[⟨"Point", 28, 0, false, "", "", 0⟩, ⟨"Made", 3, 33, false, "", "", 40⟩, ⟨"Value", 2, 34, false, "", "", 48⟩, ⟨"Script", 29, 35, false, "", "", 56⟩, ⟨"Base", 4, 36, false, "", "", 80⟩, ⟨"Spent", 3, 37, false, "", "", 88⟩, ⟨"Spender", 25, 38, false, "", "", 96⟩], 70, 128, .agg [.int .u8 (0), .int .u8 (0), .int .u8 (0), .int .u8 (0), .int .u8 (0), .int .u8 (0), .int .u8 (0), .int .u8 (0), .int .u8 (0), .int .u8 (0), .int .u8 (0), .int .u8 (0), .int .u8 (0), .int .u8 (0), .int .u8 (0), .int .u8 (0), .int .u8 (0), .int .u8 (0), .int .u8 (0), .int .u8 (0), .int .u8 (0), .int .u8 (0), .int .u8 (0), .int .u8 (0), .int .u8 (0), .int .u8 (0), .int .u8 (0), .int .u8 (0), .int .u8 (0), .int .u8 (0), .int .u8 (0), .int .u8 (0), .int .u32 (0), .int .i64 (0), .int .i64 (0), .aV, .bool false, .int .i64 (0), .int .u8 (0), .int .u8 (0), .int .u8 (0), .int .u8 (0), .int .u8 (0), .int .u8 (0), .int .u8 (0), .int .u8 (0), .int .u8 (0), .int .u8 (0), .int .u8 (0), .int .u8 (0), .int .u8 (0), .int .u8 (0), .int .u8 (0), .int .u8 (0), .int .u8 (0), .int .u8 (0), .int .u8 (0), .int .u8 (0), .int .u8 (0), .int .u8 (0), .int .u8 (0), .int .u8 (0), .int .u8 (0), .int .u8 (0), .int .u8 (0), .int .u8 (0), .int .u8 (0), .int .u8 (0), .int .u8 (0), .int .u8 (0)]⟩ := rfl
theorem oC : ti env 43 = M.pure ⟨Go.TypeDesc.slice 31, 1, 24, .aV⟩ := rfl
theorem CW : ti env 44 = M.pure ⟨Go.TypeDesc.slice 48, 1, 24, .aV⟩ := rfl
theorem R6 : ti env 45 = M.pure ⟨Go.TypeDesc.struct #[⟨"Height", 3, 0, false, "", "", 0⟩, ⟨"Block", 25, 1, false, "", "", 8⟩, ⟨"Made", 43, 33, false, "", "", 40⟩, ⟨"Spends", 44, 34, false, "", "", 64⟩, ⟨"Burnt", 2, 35, false, "", "", 88⟩, ⟨"Left", 2, 36, false, "", "", 96⟩], 37, 104, .agg [.int .i64 (0), .int .u8 (0), .int .u8 (0), .int .u8 (0), .int .u8 (0), .int .u8 (0), .int .u8 (0), .int .u8 (0), .int .u8 (0), .int .u8 (0), .int .u8 (0), .int .u8 (0), .int .u8 (0), .int .u8 (0), .int .u8 (0), .int .u8 (0), .int .u8 (0), .int .u8 (0), .int .u8 (0), .int .u8 (0), .int .u8 (0), .int .u8 (0), .int .u8 (0), .int .u8 (0), .int .u8 (0), .int .u8 (0), .int .u8 (0), .int .u8 (0), .int .u8 (0), .int .u8 (0), .int .u8 (0), .int .u8 (0), .int .u8 (0), .aV, .aV, .int .i64 (0), .int .i64 (0)]⟩ := rfl
theorem lY : ti env 46 = M.pure ⟨Go.TypeDesc.struct #[⟨"Height", 3, 0, false, "", "", 0⟩, ⟨"Block", 25, 1, false, "", "", 8⟩, ⟨"Made", 43, 33, false, "", "", 40⟩, ⟨"Spends", 44, 34, false, "", "", 64⟩, ⟨"Burnt", 2, 35, false, "", "", 88⟩, ⟨"Left", 2, 36, false, "", "", 96⟩], 37, 104, .agg [.int .i64 (0), .int .u8 (0), .int .u8 (0), .int .u8 (0), .int .u8 (0), .int .u8 (0), .int .u8 (0), .int .u8 (0), .int .u8 (0), .int .u8 (0), .int .u8 (0), .int .u8 (0), .int .u8 (0), .int .u8 (0), .int .u8 (0), .int .u8 (0), .int .u8 (0), .int .u8 (0), .int .u8 (0), .int .u8 (0), .int .u8 (0), .int .u8 (0), .int .u8 (0), .int .u8 (0), .int .u8 (0), .int .u8 (0), .int .u8 (0), .int .u8 (0), .int .u8 (0), .int .u8 (0), .int .u8 (0), .int .u8 (0), .int .u8 (0), .aV, .aV, .int .i64 (0), .int .i64 (0)]⟩ := rfl
theorem R5 : ti env 47 = M.pure ⟨Go.TypeDesc.struct #[⟨"Point", 28, 0, false, "", "", 0⟩, ⟨"Spender", 25, 33, false, "", "", 36⟩], 65, 68, .agg [.int .u8 (0), .int .u8 (0), .int .u8 (0), .int .u8 (0), .int .u8 (0), .int .u8 (0), .int .u8 (0), .int .u8 (0), .int .u8 (0), .int .u8 (0), .int .u8 (0), .int .u8 (0), .int .u8 (0), .int .u8 (0), .int .u8 (0), .int .u8 (0), .int .u8 (0), .int .u8 (0), .int .u8 (0), .int .u8 (0), .int .u8 (0), .int .u8 (0), .int .u8 (0), .int .u8 (0), .int .u8 (0), .int .u8 (0), .int .u8 (0), .int .u8 (0), .int .u8 (0), .int .u8 (0), .int .u8 (0), .int .u8 (0), .int .u32 (0), .int .u8 (0), .int .u8 (0), .int .u8 (0), .int .u8 (0), .int .u8 (0), .int .u8 (0), .int .u8 (0), .int .u8 (0), .int .u8 (0), .int .u8 (0), .int .u8 (0), .int .u8 (0), .int .u8 (0), .int .u8 (0), .int .u8 (0), .int .u8 (0), .int .u8 (0), .int .u8 (0), .int .u8 (0), .int .u8 (0), .int .u8 (0), .int .u8 (0), .int .u8 (0), .int .u8 (0), .int .u8 (0), .int .u8 (0), .int .u8 (0), .int .u8 (0), .int .u8 (0), .int .u8 (0), .int .u8 (0), .int .u8 (0)]⟩ := rfl
theorem xI : ti env 48 = M.pure ⟨Go.TypeDesc.struct #[⟨"Point", 28, 0, false, "", "", 0⟩, ⟨"Spender", 25, 33, false, "", "", 36⟩], 65, 68, .agg [.int .u8 (0), .int .u8 (0), .int .u8 (0), .int .u8 (0), .int .u8 (0), .int .u8 (0), .int .u8 (0), .int .u8 (0), .int .u8 (0), .int .u8 (0), .int .u8 (0), .int .u8 (0), .int .u8 (0), .int .u8 (0), .int .u8 (0), .int .u8 (0), .int .u8 (0), .int .u8 (0), .int .u8 (0), .int .u8 (0), .int .u8 (0), .int .u8 (0), .int .u8 (0), .int .u8 (0), .int .u8 (0), .int .u8 (0), .int .u8 (0), .int .u8 (0), .int .u8 (0), .int .u8 (0), .int .u8 (0), .int .u8 (0), .int .u32 (0), .int .u8 (0), .int .u8 (0), .int .u8 (0), .int .u8 (0), .int .u8 (0), .int .u8 (0), .int .u8 (0), .int .u8 (0), .int .u8 (0), .int .u8 (0), .int .u8 (0), .int .u8 (0), .int .u8 (0), .int .u8 (0), .int .u8 (0), .int .u8 (0), .int .u8 (0), .int .u8 (0), .int .u8 (0), .int .u8 (0), .int .u8 (0), .int .u8 (0), .int .u8 (0), .int .u8 (0), .int .u8 (0), .int .u8 (0), .int .u8 (0), .int .u8 (0), .int .u8 (0), .int .u8 (0), .int .u8 (0), .int .u8 (0)]⟩ := rfl
theorem qA : ti env 56 = M.pure ⟨Go.TypeDesc.pointer 100, 1, 8, .eZ⟩ := rfl
theorem sX : ti env 57 = M.pure ⟨Go.TypeDesc.slice 61, 1, 24, .aV⟩ := rfl
theorem R4 : ti env 58 = M.pure ⟨Go.TypeDesc.struct #[⟨"x", 56, 0, false, "", "purser/store", 0⟩, ⟨"levels", 57, 1, false, "", "purser/store", 8⟩], 2, 32, .agg [.eZ, .aV]⟩ := rfl
theorem N6 : ti env 59 = M.pure ⟨Go.TypeDesc.struct #[⟨"x", 56, 0, false, "", "purser/store", 0⟩, ⟨"levels", 57, 1, false, "", "purser/store", 8⟩], 2, 32, .agg [.eZ, .aV]⟩ := rfl
theorem R3 : ti env 60 = M.pure ⟨Go.TypeDesc.struct #[⟨"Height", 3, 0, false, "", "", 0⟩, ⟨"Block", 25, 1, false, "", "", 8⟩, ⟨"Coins", 3, 33, false, "", "", 40⟩, ⟨"Total", 2, 34, false, "", "", 48⟩, ⟨"Burnt", 2, 35, false, "", "", 56⟩, ⟨"Left", 2, 36, false, "", "", 64⟩], 37, 72, .agg [.int .i64 (0), .int .u8 (0), .int .u8 (0), .int .u8 (0), .int .u8 (0), .int .u8 (0), .int .u8 (0), .int .u8 (0), .int .u8 (0), .int .u8 (0), .int .u8 (0), .int .u8 (0), .int .u8 (0), .int .u8 (0), .int .u8 (0), .int .u8 (0), .int .u8 (0), .int .u8 (0), .int .u8 (0), .int .u8 (0), .int .u8 (0), .int .u8 (0), .int .u8 (0), .int .u8 (0), .int .u8 (0), .int .u8 (0), .int .u8 (0), .int .u8 (0), .int .u8 (0), .int .u8 (0), .int .u8 (0), .int .u8 (0), .int .u8 (0), .int .i64 (0), .int .i64 (0), .int .i64 (0), .int .i64 (0)]⟩ := rfl
theorem iI : ti env 61 = M.pure ⟨Go.TypeDesc.struct #[⟨"Height", 3, 0, false, "", "", 0⟩, ⟨"Block", 25, 1, false, "", "", 8⟩, ⟨"Coins", 3, 33, false, "", "", 40⟩, ⟨"Total", 2, 34, false, "", "", 48⟩, ⟨"Burnt", 2, 35, false, "", "", 56⟩, ⟨"Left", 2, 36, false, "", "", 64⟩], 37, 72, .agg [.int .i64 (0), .int .u8 (0), .int .u8 (0), .int .u8 (0), .int .u8 (0), .int .u8 (0), .int .u8 (0), .int .u8 (0), .int .u8 (0), .int .u8 (0), .int .u8 (0), .int .u8 (0), .int .u8 (0), .int .u8 (0), .int .u8 (0), .int .u8 (0), .int .u8 (0), .int .u8 (0), .int .u8 (0), .int .u8 (0), .int .u8 (0), .int .u8 (0), .int .u8 (0), .int .u8 (0), .int .u8 (0), .int .u8 (0), .int .u8 (0), .int .u8 (0), .int .u8 (0), .int .u8 (0), .int .u8 (0), .int .u8 (0), .int .u8 (0), .int .i64 (0), .int .i64 (0), .int .i64 (0), .int .i64 (0)]⟩ := rfl
theorem pZ : ti env 95 = M.pure ⟨Go.TypeDesc.slice 128, 1, 24, .aV⟩ := rfl
theorem G1 : ti env 96 = M.pure ⟨Go.TypeDesc.func #[128, 128] #[3] false, 1, 8, .dI⟩ := rfl
theorem R2 : ti env 97 = M.pure ⟨Go.TypeDesc.struct #[⟨"l", 95, 0, false, "", "purser/index", 0⟩, ⟨"order", 96, 1, false, "", "purser/index", 24⟩], 2, 32, .agg [.aV, .dI]⟩ := rfl
theorem R1 : ti env 98 = M.pure ⟨Go.TypeDesc.struct #[⟨"l", 95, 0, false, "", "purser/index", 0⟩, ⟨"order", 96, 1, false, "", "purser/index", 24⟩], 2, 32, .agg [.aV, .dI]⟩ := rfl
theorem R0 : ti env 99 = M.pure ⟨Go.TypeDesc.struct #[⟨"made", 4, 0, false, "", "purser/index", 0⟩, ⟨"points", 98, 1, false, "", "purser/index", 8⟩, ⟨"scripts", 98, 3, false, "", "purser/index", 40⟩], 5, 72, .agg [.bool false, .aV, .dI, .aV, .dI]⟩ := rfl
theorem EO : ti env 100 = M.pure ⟨Go.TypeDesc.struct #[⟨"made", 4, 0, false, "", "purser/index", 0⟩, ⟨"points", 98, 1, false, "", "purser/index", 8⟩, ⟨"scripts", 98, 3, false, "", "purser/index", 40⟩], 5, 72, .agg [.bool false, .aV, .dI, .aV, .dI]⟩ := rfl
theorem ID : ti env 104 = M.pure ⟨Go.TypeDesc.struct #[⟨"Kind", 3, 0, false, "", "", 0⟩, ⟨"A", 46, 1, false, "", "", 8⟩, ⟨"Next", 4, 38, false, "", "", 112⟩, ⟨"N", 3, 39, false, "", "", 120⟩], 40, 128, .agg [.int .i64 (0), .int .i64 (0), .int .u8 (0), .int .u8 (0), .int .u8 (0), .int .u8 (0), .int .u8 (0), .int .u8 (0), .int .u8 (0), .int .u8 (0), .int .u8 (0), .int .u8 (0), .int .u8 (0), .int .u8 (0), .int .u8 (0), .int .u8 (0), .int .u8 (0), .int .u8 (0), .int .u8 (0), .int .u8 (0), .int .u8 (0), .int .u8 (0), .int .u8 (0), .int .u8 (0), .int .u8 (0), .int .u8 (0), .int .u8 (0), .int .u8 (0), .int .u8 (0), .int .u8 (0), .int .u8 (0), .int .u8 (0), .int .u8 (0), .int .u8 (0), .aV, .aV, .int .i64 (0), .int .i64 (0), .bool false, .int .i64 (0)]⟩ := rfl
theorem iV : ti env 128 = M.pure ⟨Go.TypeDesc.pointer 31, 1, 8, .eZ⟩ := rfl
theorem IA : ti env 161 = M.pure ⟨Go.TypeDesc.map 28 3, 1, 8, .mT⟩ := rfl
theorem fi20 : (env.funcs.find 20).i = VJ.i := rfl
theorem ff20 : (env.funcs.find 20).f.beq 20 = true := rfl
theorem U7 : ∀ args : List a9, c9 env (evalW env) 20 args = bD env (evalW env) 20 args := fun _ => rfl
theorem fg20 : ∀ tm : List a9, forget env 20 tm = aB [T, F, T, F, T, F, F, F, F, F, F] tm := fun _ => rfl
theorem VQ : (env.funcs.find 66).i = DQ.i := rfl
theorem VS : (env.funcs.find 66).f.beq 66 = true := rfl
theorem U6 : ∀ args : List a9, c9 env (evalW env) 66 args = bD env (evalW env) 66 args := fun _ => rfl
theorem VR : ∀ tm : List a9, forget env 66 tm = aB [T, F, T, F, F, F, F, F, F, F, F, F] tm := fun _ => rfl
theorem PX : (env.funcs.find 104).i = yM.i := rfl
theorem PY : (env.funcs.find 104).f.beq 104 = true := rfl
theorem KM : ∀ args : List a9, c9 env (evalW env) 104 args = bD env (evalW env) 104 args := fun _ => rfl
theorem ZV : ∀ tm : List a9, forget env 104 tm = aB [T, T, T, F, F, F, T, T, T, T, F, F, F, F, F, F, T, F, F, F, F, F, T, F, F, F, F, F, F, F, F, T, F, F, F, F, F, F, F, F, F, F, F, F, F, F, F, F, F, F, F, F, F, F, F, F, F, F, F, F, F, F, F, F, F, F, F, F, T, F, F, F, F, F, F, F, F, F, F, F, F, F, F, F, F, F, F, F, F, F, F, F, F, F, F] tm := fun _ => rfl
theorem Z7 : (env.funcs.find 108).i = KW.i := rfl
theorem aa9 : (env.funcs.find 108).f.beq 108 = true := rfl
theorem KJ : ∀ args : List a9, c9 env (evalW env) 108 args = bD env (evalW env) 108 args := fun _ => rfl
theorem ZR : ∀ tm : List a9, forget env 108 tm = aB [T, T, F, F, T, F, F, F] tm := fun _ => rfl
theorem KH : ∀ args : List a9, c9 env (evalW env) 112 args = dK args := fun _ => rfl
theorem KG : ∀ args : List a9, c9 env (evalW env) 115 args = (gS 128) args := fun _ => rfl
theorem KF : ∀ args : List a9, c9 env (evalW env) 119 args = dK args := fun _ => rfl
theorem MN : ∀ ts v, cY env (24 :: ts) v = M.pure (.int .i64 32) := fun _ _ => rfl
theorem MM : ∀ ts v, cY env (25 :: ts) v = M.pure (.int .i64 32) := fun _ _ => rfl
theorem ML : ∀ ts id off len cap sz, cY env (29 :: ts) (.sl id off len cap sz) = M.pure (.int .i64 (len : Nat)) := fun _ _ _ _ _ _ => rfl
theorem MK : ∀ ts g sz off len, cY env (29 :: ts) (.isl g sz off len) = M.pure (.int .i64 (len : Nat)) := fun _ _ _ _ _ => rfl
theorem MJ : ∀ ts, cY env (29 :: ts) .aV = M.pure (.int .i64 0) := fun _ => rfl
theorem MI : ∀ ts, cY env (29 :: ts) .emp = M.pure (.int .i64 0) := fun _ => rfl
theorem MH : ∀ ts id off len cap sz, cY env (43 :: ts) (.sl id off len cap sz) = M.pure (.int .i64 (len : Nat)) := fun _ _ _ _ _ _ => rfl
theorem MG : ∀ ts g sz off len, cY env (43 :: ts) (.isl g sz off len) = M.pure (.int .i64 (len : Nat)) := fun _ _ _ _ _ => rfl
theorem MF : ∀ ts, cY env (43 :: ts) .aV = M.pure (.int .i64 0) := fun _ => rfl
theorem MD : ∀ ts, cY env (43 :: ts) .emp = M.pure (.int .i64 0) := fun _ => rfl
theorem MC : ∀ ts id off len cap sz, cY env (44 :: ts) (.sl id off len cap sz) = M.pure (.int .i64 (len : Nat)) := fun _ _ _ _ _ _ => rfl
theorem MB : ∀ ts g sz off len, cY env (44 :: ts) (.isl g sz off len) = M.pure (.int .i64 (len : Nat)) := fun _ _ _ _ _ => rfl
theorem MA : ∀ ts, cY env (44 :: ts) .aV = M.pure (.int .i64 0) := fun _ => rfl
theorem M9 : ∀ ts, cY env (44 :: ts) .emp = M.pure (.int .i64 0) := fun _ => rfl
theorem M8 : ∀ ts id off len cap sz, cY env (57 :: ts) (.sl id off len cap sz) = M.pure (.int .i64 (len : Nat)) := fun _ _ _ _ _ _ => rfl
theorem M7 : ∀ ts g sz off len, cY env (57 :: ts) (.isl g sz off len) = M.pure (.int .i64 (len : Nat)) := fun _ _ _ _ _ => rfl
theorem M4 : ∀ ts, cY env (57 :: ts) .aV = M.pure (.int .i64 0) := fun _ => rfl
theorem M3 : ∀ ts, cY env (57 :: ts) .emp = M.pure (.int .i64 0) := fun _ => rfl
theorem LZ : ∀ ts id off len cap sz, cY env (95 :: ts) (.sl id off len cap sz) = M.pure (.int .i64 (len : Nat)) := fun _ _ _ _ _ _ => rfl
theorem LY : ∀ ts g sz off len, cY env (95 :: ts) (.isl g sz off len) = M.pure (.int .i64 (len : Nat)) := fun _ _ _ _ _ => rfl
theorem LX : ∀ ts, cY env (95 :: ts) .aV = M.pure (.int .i64 0) := fun _ => rfl
theorem LW : ∀ ts, cY env (95 :: ts) .emp = M.pure (.int .i64 0) := fun _ => rfl
def tyr := (And.intro ti2 (And.intro ti3 (And.intro ti4 (And.intro ti5 (And.intro G3 (And.intro R9 (And.intro mM (And.intro oD (And.intro R8 (And.intro iK (And.intro uC (And.intro R7 (And.intro dY (And.intro oC (And.intro CW (And.intro R6 (And.intro lY (And.intro R5 (And.intro xI (And.intro qA (And.intro sX (And.intro R4 (And.intro N6 (And.intro R3 (And.intro iI (And.intro pZ (And.intro G1 (And.intro R2 (And.intro R1 (And.intro R0 (And.intro EO (And.intro ID (And.intro iV IA)))))))))))))))))))))))))))))))))
def blr := (And.intro MN (And.intro MM (And.intro ML (And.intro MK (And.intro MJ (And.intro MI (And.intro MH (And.intro MG (And.intro MF (And.intro MD (And.intro MC (And.intro MB (And.intro MA (And.intro M9 (And.intro M8 (And.intro M7 (And.intro M4 (And.intro M3 (And.intro LZ (And.intro LY (And.intro LX LW)))))))))))))))))))))
def fgr := (And.intro fg20 (And.intro VR (And.intro ZV (And.intro ZR (And.intro TC (And.intro D7 (And.intro O6 NY)))))))
def hkr := (And.intro U7 (And.intro U6 (And.intro KM (And.intro KJ (And.intro KH (And.intro KG KF))))))
end Go.Am.Ytlgebaofkolkoaa.Ins
set_option linter.unusedSimpArgs false
set_option linter.unusedVariables false
set_option linter.defProp false
set_option maxRecDepth 10000
namespace Go.Am.Ytlgebaofkolkoaa.Ins
open Go Go.Am Go.Proofs
def aY (hash : List UInt8) (pn : Int) : List a9 := hash.map u8 ++ [.int .u32 pn]
theorem cA {hash : List UInt8} {pn : Int} (h : hash.length = 32) : (aY hash pn).length = 33 := by simp [aY, h]
theorem iC {hash : List UInt8} {pn : Int} (h : hash.length = 32) : (aY hash pn)[32]? = some (.int .u32 pn) := by
 unfold aY
 rw [List.getElem?_append_right (by rw [List.length_map]; omega), List.length_map, h]; rfl
theorem allM_pure {α : Type} {f : α → M Bool} {g : α → Bool} : ∀ (l : List α), (∀ x ∈ l, f x = M.pure (g x)) → allM f l = M.pure (l.all g)
 | [], _ => rfl
 | x :: l, h => by
  simp only [allM, h x (List.mem_cons_self), bind_pure, allM_pure l fun y hy => h y (List.mem_cons_of_mem _ hy), List.all_cons]
theorem vI {a : List UInt8} {i : Nat} (hi : i < a.length) : part env 5 (a.map u8) i = M.pure (u8 a[i]) := by
 simp only [part, ti5, bind_pure, eK, List.getElem?_map, List.getElem?_eq_getElem hi, Option.map_some, aZ]
theorem eq5 (d : Nat) (x y : UInt8) : equal env (d + 1) 5 (u8 x) (u8 y) = M.pure (x == y) := by
 have : ((x.toNat : Int) == (y.toNat : Int)) = (x == y) := by
  by_cases e : x = y
  ·subst e; simp
  ·have h2 : ¬ ((x.toNat : Int) = (y.toNat : Int)) := fun q => e (UInt8.toNat_inj.1 (by omega))
   rw [beq_eq_false_iff_ne.2 h2, beq_eq_false_iff_ne.2 e]
 simp only [equal, u8, und, ti5, bind_pure, decide_true]
 rw [this]
theorem LB (d : Nat) (a b : List UInt8) (ha : a.length = 32) (hb : b.length = 32) : equal env (d + 1 + 1) 25 (.agg (a.map u8)) (.agg (b.map u8)) = M.pure (decide (a = b)) := by
 have hq : xS env env.eqs 25 = true := rfl
 have h1 : equal env (d + 1 + 1) 25 (.agg (a.map u8)) (.agg (b.map u8)) = allM (fun i => (part env 5 (a.map u8) (i * 1)).bind fun x => (part env 5 (b.map u8) (i * 1)).bind fun y => equal env (d + 1) 5 x y) (List.range 32) := by
  rw [equal]
  ·simp only [und, mM, bind_pure, hq, dU, sizeOf, ti5]
  all_goals (intro k n h; cases h)
 rw [h1, allM_pure (g := fun i => (a.getD i 0 == b.getD i 0)) _ fun i hi => ?_]
 ·congr 1
  rw [Bool.eq_iff_iff, List.all_eq_true, decide_eq_true_iff]
  constructor
  ·intro h
   apply List.ext_getElem (by omega)
   intro i h1 h2
   have := h i (List.mem_range.2 (by omega))
   rw [List.getD_eq_getElem?_getD, List.getD_eq_getElem?_getD, List.getElem?_eq_getElem h1, List.getElem?_eq_getElem h2] at this
   simpa using this
  ·rintro rfl i _
   simp
 ·have hi := List.mem_range.1 hi
  rw [Nat.mul_one, vI (by omega), bind_pure, vI (by omega), bind_pure, eq5]
  rw [List.getD_eq_getElem?_getD, List.getD_eq_getElem?_getD, List.getElem?_eq_getElem (by omega), List.getElem?_eq_getElem (by omega)]
  rfl
theorem OW (d : Nat) (h1 h2 : List UInt8) (n1 n2 : Int) (l1 : h1.length = 32) (l2 : h2.length = 32) : equal env (d + 1 + 1 + 1) 28 (.agg (aY h1 n1)) (.agg (aY h2 n2)) = M.pure (decide (h1 = h2) && (n1 == n2)) := by
 have hq : xS env env.eqs 28 = true := rfl
 have p0 : ∀ (hh : List UInt8) (nn : Int), hh.length = 32 → part env 25 (aY hh nn) 0 = M.pure (.agg (hh.map u8)) := fun hh nn hl => by
  simp only [part, mM, bind_pure, eK, List.drop_zero]
  rw [show (aY hh nn).take 32 = hh.map u8 by unfold aY; rw [List.take_append_of_le_length (by simp [hl]), List.take_of_length_le (by simp [hl])]]
 have p1 : ∀ (hh : List UInt8) (nn : Int), hh.length = 32 → part env 26 (aY hh nn) 32 = M.pure (.int .u32 nn) := fun hh nn hl => by
  simp only [part, oD, bind_pure, eK, iC hl, aZ]
 have p2 : equal env (d + 1 + 1) 26 (.int .u32 n1) (.int .u32 n2) = M.pure (n1 == n2) := by
  simp only [equal, und, oD, bind_pure, decide_true]
 rw [equal]
 ·simp only [und, iK, bind_pure, hq, dU]
  simp only [allM, show decide ("Tx" = "_") = false from rfl, show decide ("N" = "_") = false from rfl, p0 h1 n1 l1, p0 h2 n2 l2, p1 h1 n1 l1, p1 h2 n2 l2, bind_pure, LB d h1 h2 l1 l2, p2, Bool.and_true]
 all_goals (intro k n h; cases h)
abbrev Pt := List UInt8 × Int
def ptA (p : Pt) : a9 := .agg (aY p.1 p.2)
theorem CU {a b : UInt8} (h : u8 a = u8 b) : a = b := by
 unfold u8 at h
 injection h with h1 h2
 exact UInt8.toNat_inj.1 (by omega)
theorem lM : ∀ {a b : List UInt8}, a.map u8 = b.map u8 → a = b
 | [], [], _ => rfl
 | [], _ :: _, h => by cases h
 | _ :: _, [], h => by cases h
 | x :: a, y :: b, h => by
  simp only [List.map_cons, List.cons.injEq] at h
  rw [CU h.1, lM h.2]
theorem rM {p q : Pt} (h : ptA p = ptA q) : p = q := by
 unfold ptA aY at h
 injection h with h
 obtain ⟨h1, h2⟩ := List.append_inj' h rfl
 injection h2 with h2
 injection h2 with _ h2
 exact Prod.ext (lM h1) h2
noncomputable def isK (k a : a9) : Bool := @decide (a = k) (Classical.propDecidable _)
theorem m5 {k a : a9} : isK k a = true ↔ a = k := by unfold isK; exact @decide_eq_true_iff _ (Classical.propDecidable _)
theorem vT {k a : a9} (h : a ≠ k) : isK k a = false := by
 cases e : isK k a with
 | false => rfl
 | true => exact absurd (m5.1 e) h
theorem uT (p q : Pt) (l1 : p.1.length = 32) (l2 : q.1.length = 32) : bJ env 28 (ptA p) (ptA q) = M.pure (isK (ptA p) (ptA q)) := by
 have e : bJ env 28 (ptA p) (ptA q) = M.pure (decide (p.1 = q.1) && (p.2 == q.2)) := OW 97 p.1 q.1 p.2 q.2 l1 l2
 rw [e]
 congr 1
 by_cases c : p = q
 ·subst c
  rw [m5.2 rfl]; simp
 ·rw [vT fun w => c (rM w).symm]
  by_cases d : p.1 = q.1
  ·rw [decide_eq_true d, Bool.true_and, beq_eq_false_iff_ne]
   exact fun w => c (Prod.ext d w)
  ·rw [decide_eq_false d]; rfl
theorem AY : ∀ l : List a9, (∀ a ∈ l, qE a a = true) → uI l l = true
 | [], _ => rfl
 | a :: l, h => by
  simp only [uI, h a (List.mem_cons_self ..), AY l fun x hx => h x (List.mem_cons_of_mem _ hx), Bool.and_self]
theorem ES (p : Pt) : sameKey (ptA p) (ptA p) = true := by
 refine AY _ fun a ha => ?_
 unfold aY at ha
 rcases List.mem_append.1 ha with h | h
 ·obtain ⟨b, _, rfl⟩ := List.mem_map.1 h
  simp [u8, qE]
 ·rw [List.mem_singleton] at h
  subst h
  simp [qE]
theorem K9 (d : Nat) (x : UInt8) : iZ env (d + 1) 5 (u8 x) = M.pure () := by
 simp only [iZ, und, ti5, bind_pure]
theorem nB {α : Type} {f : α → M Unit} : ∀ (l : List α), (∀ x ∈ l, f x = M.pure ()) → AM f l = M.pure ()
 | [], _ => rfl
 | x :: l, h => by simp only [AM, h x (List.mem_cons_self ..), bind_pure, nB l fun y hy => h y (List.mem_cons_of_mem _ hy)]
theorem DP (d : Nat) (a : List UInt8) (ha : a.length = 32) : iZ env (d + 1 + 1) 25 (.agg (a.map u8)) = M.pure () := by
 rw [iZ]
 simp only [und, mM, bind_pure, dU, sizeOf, ti5]
 refine nB _ fun i hi => ?_
 have hi := List.mem_range.1 hi
 rw [Nat.mul_one, vI (by omega), bind_pure, K9]
theorem tA (p : Pt) (l1 : p.1.length = 32) : iZ env 100 28 (ptA p) = M.pure () := by
 have p0 : part env 25 (aY p.1 p.2) 0 = M.pure (.agg (p.1.map u8)) := by
  simp only [part, mM, bind_pure, eK, List.drop_zero]
  rw [show (aY p.1 p.2).take 32 = p.1.map u8 by unfold aY; rw [List.take_append_of_le_length (by simp [l1]), List.take_of_length_le (by simp [l1])]]
 have p1 : part env 26 (aY p.1 p.2) 32 = M.pure (.int .u32 p.2) := by
  simp only [part, oD, bind_pure, eK, iC l1, aZ]
 have p2 : iZ env (97 + 1 + 1) 26 (.int .u32 p.2) = M.pure () := by
  rw [iZ]; simp only [und, oD, bind_pure]
 unfold ptA
 show iZ env (97 + 1 + 1 + 1) 28 (.agg (aY p.1 p.2)) = M.pure ()
 rw [iZ]
 simp only [und, iK, bind_pure, dU]
 simp only [AM, show decide ("Tx" = "_") = false from rfl, show decide ("N" = "_") = false from rfl, p0, p1, bind_pure, DP 97 p.1 l1, p2]
theorem CV : und env 161 = M.pure (.map 28 3) := rfl
theorem z3o : zeroOf env 3 = M.pure (.int .i64 0) := rfl
end Go.Am.Ytlgebaofkolkoaa.Ins
set_option linter.unusedSimpArgs false
set_option linter.unusedVariables false
set_option linter.defProp false
set_option maxRecDepth 10000
namespace Go.Am.Ytlgebaofkolkoaa.Ins
open Go Go.Am Go.Proofs
theorem IK {a b : a9} (h : qE a b = true) : a = b := by
 unfold qE at h
 split at h
 ·simp only [Bool.and_eq_true, decide_eq_true_eq, beq_iff_eq] at h
  rw [h.1, h.2]
 ·rw [beq_iff_eq] at h
  rw [h]
 ·cases h
theorem FW : ∀ {a b : List a9}, uI a b = true → a = b
 | [], [], _ => rfl
 | [], _ :: _, h => by simp [uI] at h
 | _ :: _, [], h => by simp [uI] at h
 | x :: a, y :: b, h => by
  simp only [uI, Bool.and_eq_true] at h
  rw [IK h.1, FW h.2]
def D6 (l : List a9) : Option Pt := match l[32]? with
 | some v => match v with
  | .int .u32 z => match uI (aY ((l.take 32).map toByte) z) l && (((l.take 32).map toByte).length).beq 32 with
   | true => some ((l.take 32).map toByte, z)
   | false => none
  | _ => none
 | none => none
theorem yA {l : List a9} {p : Pt} (h : D6 l = some p) : l = aY p.1 p.2 ∧ p.1.length = 32 := by
 unfold D6 at h
 split at h
 ·split at h
  ·split at h
   ·rename_i e
    rw [Bool.and_eq_true] at e
    injection h with h
    subst h
    exact ⟨(FW e.1).symm, Nat.eq_of_beq_eq_true e.2⟩
   ·cases h
  ·cases h
 ·cases h
theorem EW {p : Pt} (h : p.1.length = 32) : D6 (aY p.1 p.2) = some p := by
 have e1 : (aY p.1 p.2).take 32 = p.1.map u8 := by unfold aY; rw [List.take_append_of_le_length (by simp [h]), List.take_of_length_le (by simp [h])]
 unfold D6
 rw [iC h, e1]
 have e2 : (p.1.map u8).map toByte = p.1 := kU p.1
 rw [e2]
 have e3 : uI (aY p.1 p.2) (aY p.1 p.2) = true := ES p
 simp only [e3, h, Bool.true_and]
def C3 (e : Ent) : Option (Pt × Int) := match e.1 with
 | .agg l => match D6 l with
  | some p => match e.2.1 with
   | .int .i64 z => some (p, z)
   | _ => none
  | none => none
 | _ => none
def cv (x : Pt × Int) : a9 × a9 := (ptA x.1, .int .i64 x.2)
theorem E1 {e : Ent} {x : Pt × Int} (h : C3 e = some x) : e.1 = ptA x.1 ∧ e.2.1 = .int .i64 x.2 ∧ x.1.1.length = 32 := by
 unfold C3 at h
 split at h
 ·rename_i l e1
  split at h
  ·rename_i p hp
   split at h
   ·rename_i z e2
    injection h with h
    subst h
    obtain ⟨q1, q2⟩ := yA hp
    exact ⟨by rw [e1, q1]; rfl, e2, q2⟩
   ·cases h
  ·cases h
 ·cases h
def nR (b : Nat) : List Ent → Option (List (Pt × Int))
 | [] => some []
 | e :: es => match C3 e with
  | some x => match e.2.2.beq b with
   | true => match nR (b + 1) es with
    | some l => some (x :: l)
    | none => none
   | false => none
  | none => none
theorem sG : ∀ {es : List Ent} {b : Nat} {l : List (Pt × Int)}, nR b es = some l → es = iD b (l.map cv) ∧ ∀ x ∈ l, x.1.1.length = 32
 | [], b, l, h => by injection h with h; subst h; exact ⟨rfl, fun x hx => by cases hx⟩
 | e :: es, b, l, h => by
  unfold nR at h
  split at h
  ·rename_i x hx
   split at h
   ·rename_i hb
    split at h
    ·rename_i l2 hl
     injection h with h
     subst h
     obtain ⟨q1, q2⟩ := sG hl
     obtain ⟨a1, a2, a3⟩ := E1 hx
     refine ⟨?_, fun y hy => ?_⟩
     ·simp only [List.map_cons, iD, ← q1]
      congr 1
      exact Prod.ext a1 (Prod.ext a2 (Nat.eq_of_beq_eq_true hb))
     ·rcases List.mem_cons.1 hy with rfl | hy
      ·exact a3
      ·exact q2 y hy
    ·cases h
   ·cases h
  ·cases h
theorem sH : ∀ (l : List (Pt × Int)) (b : Nat), (∀ x ∈ l, x.1.1.length = 32) → nR b (iD b (l.map cv)) = some l
 | [], b, _ => rfl
 | x :: l, b, h => by
  have e : C3 (ptA x.1, a9.int .i64 x.2, b) = some x := by
   unfold C3 ptA
   simp only [EW (h x (List.mem_cons_self ..))]
  simp only [List.map_cons, iD, nR, cv, e, Nat.beq_refl, sH l (b + 1) fun y hy => h y (List.mem_cons_of_mem _ hy)]
def idxOf (p : Pt) : List (Pt × Int) → Nat → Option (Nat × Int)
 | [], _ => none
 | x :: l, i => if x.1 = p then some (i, x.2) else idxOf p l (i + 1)
theorem yI {p : Pt} : ∀ (l : List (Pt × Int)) (i : Nat), fN (isK (ptA p)) (l.map cv) i = (idxOf p l i).map fun x => (x.1, a9.int .i64 x.2)
 | [], _ => rfl
 | x :: l, i => by
  by_cases c : x.1 = p
  ·simp only [List.map_cons, cv, fN, c, m5.2 rfl, if_pos, idxOf, Option.map_some]
  ·simp only [List.map_cons, cv, fN, vT fun w => c (rM w), idxOf, if_neg c, Bool.false_eq_true, if_false]
   exact yI l (i + 1)
theorem BI {p : Pt} : ∀ {l : List (Pt × Int)} {i j : Nat} {z : Int}, idxOf p l i = some (j, z) → i ≤ j ∧ j - i < l.length ∧ l[j - i]? = some (p, z)
 | [], _, _, _, h => by cases h
 | x :: l, i, j, z, h => by
  unfold idxOf at h
  split at h
  ·rename_i c
   injection h with h
   injection h with h1 h2
   subst h1; subst h2
   refine ⟨Nat.le_refl _, by simp, ?_⟩
   rw [Nat.sub_self, ← c]; rfl
  ·obtain ⟨h1, h2, h3⟩ := BI h
   refine ⟨by omega, by simp only [List.length_cons]; omega, ?_⟩
   rw [show j - i = (j - (i + 1)) + 1 by omega, List.getElem?_cons_succ]
   exact h3
def bump (p : Pt) (l : List (Pt × Int)) : List (Pt × Int) := match idxOf p l 0 with
 | some x => l.modify x.1 fun y => (y.1, IntKind.i64.wrap (x.2 + 1))
 | none => l ++ [(p, 1)]
def CE (bx bm : Blk) : Option (Pt × Nat × List (Pt × Int)) := match bx with
 | .row c _ => match c with
  | .l cells => match D6 (cells.take 33) with
   | some p => match bm with
    | .map es ck => match nR (ck - es.length) es with
     | some l => match es.length.ble ck with
      | true => some (p, ck - es.length, l)
      | false => none
     | none => none
    | _ => none
   | none => none
  | _ => none
 | _ => none
def tX (tm : List a9) : List Nat → List a9
 | [] => tm
 | t :: l => tX (put tm t .aA) l
def pU (m c : Nat) (ts : List Nat) (tm : List a9) : M (gC × List a9) :=
 match nth tm m undef with
 | .map id => match nth tm c undef with
  | .ptr x off => match off.beq 0 && ts.all (fun t => t.blt tm.length) with
   | true => (fT x).bind fun bx => (fT id).bind fun bm => match CE bx bm with
     | some r => (jP id (.map (iD r.2.1 ((bump r.1 r.2.2).map cv)) (r.2.1 + (bump r.1 r.2.2).length))).bind fun _ => M.pure (.normal, tX tm ts)
     | none => fail "bump"
   | false => fail "bump"
  | _ => fail "bump"
 | _ => fail "bump"
theorem E9 {bx bm : Blk} {r : Pt × Nat × List (Pt × Int)} (h : CE bx bm = some r) : ∃ cells t, bx = .row (.l cells) t ∧ cells.take 33 = aY r.1.1 r.1.2 ∧ r.1.1.length = 32 ∧ bm = .map (iD r.2.1 (r.2.2.map cv)) (r.2.1 + r.2.2.length) ∧ ∀ x ∈ r.2.2, x.1.1.length = 32 := by
 unfold CE at h
 split at h
 ·split at h
  ·split at h
   ·rename_i p hp
    split at h
    ·rename_i es ck
     split at h
     ·rename_i l hl
      split at h
      ·rename_i hle
       injection h with h
       subst h
       obtain ⟨q1, q2⟩ := yA hp
       obtain ⟨a1, a2⟩ := sG hl
       have hle := Nat.le_of_ble_eq_true hle
       refine ⟨_, _, rfl, q1, q2, ?_, a2⟩
       have e1 : es.length = l.length := by rw [a1, sF, List.length_map]
       rw [← a1]
       congr 1
       show ck = ck - es.length + l.length
       omega
      ·cases h
     ·cases h
    ·cases h
   ·cases h
  ·cases h
 ·cases h
end Go.Am.Ytlgebaofkolkoaa.Ins
set_option linter.unusedSimpArgs false
set_option linter.unusedVariables false
set_option linter.defProp false
set_option maxRecDepth 10000
namespace Go.Am.Ytlgebaofkolkoaa.Ins
open Go Go.Am Go.Proofs
def dat (i : Nat) : Edge := ⟨i, .data⟩
def pha (i : Nat) : Edge := ⟨i, .phase⟩
def EA (b m c ty : Nat) (pos : String) : Array Oper := #[
 { dst := some b, op := .move (.tmp m), type := 161, pos := pos, after := #[], guard := none },
 { dst := some (b + 1), op := .fieldAddr ty (.tmp c) 0, type := 0, pos := pos, after := #[], guard := none },
 { dst := some (b + 2), op := .load 28 (.tmp (b + 1)), type := 28, pos := pos, after := #[dat 1], guard := none },
 { dst := some (b + 3), op := .lookup 161 (.tmp b) (.tmp (b + 2)) false, type := 3, pos := pos, after := #[dat 0, dat 2], guard := none },
 { dst := some (b + 4), op := .binOp .add 3 (.tmp (b + 3)) (.const (.int .i64 1)) 3, type := 3, pos := pos, after := #[dat 3], guard := none },
 { dst := some (b + 5), op := .mapEntry 161 (.tmp b) (.tmp (b + 2)), type := 0, pos := pos, after := #[dat 0, dat 2, pha 0, pha 1, pha 2, ⟨3, .textOnly .mapOpAssignEntry⟩, ⟨4, .textOnly .mapOpAssignEntry⟩], guard := none },
 { dst := some (b + 6), op := .extract (.tmp (b + 5)) 1, type := 3, pos := pos, after := #[dat 5], guard := none },
 { dst := none, op := .entryStore 161 (.tmp b) (.tmp (b + 6)) (.tmp (b + 4)), type := 0, pos := pos, after := #[dat 0, dat 6, dat 4, ⟨5, .chain⟩, pha 0, pha 1, pha 2, pha 3, pha 4, pha 5, pha 6], guard := none }]
def lT : Nat → List Nat
 | 2 => [1] | 3 => [0, 2] | 4 => [3] | 5 => [0, 1, 2] | 6 => [5] | 7 => [0, 1, 2, 3, 4, 5, 6] | _ => []
theorem OX {b m c ty : Nat} {pos : String} {i : Nat} {o : Oper} (hi : (EA b m c ty pos)[i]? = some o) {S : Nat → Prop} (h : ∀ e ∈ o.after, Region.binds .any e = true → S e.on) : ∀ k ∈ lT i, S k := by
 have hlt : i < 8 := by
  have := (Array.getElem?_eq_some_iff.1 hi).1
  exact this
 have hb1 : ∀ k, Region.binds .any (dat k) = true := fun k => rfl
 have hb2 : ∀ k, Region.binds .any (pha k) = true := fun k => rfl
 match i, hlt with
 | 0, _ => intro k hk; cases hk
 | 1, _ => intro k hk; cases hk
 | 2, _ =>
  injection hi with hi; subst hi; intro k hk
  simp only [lT, List.mem_cons, List.not_mem_nil, or_false] at hk
  subst hk
  ·exact h (dat 1) (Array.mem_def.2 (List.mem_of_getElem? (i := 0) rfl)) (hb1 _)
 | 3, _ =>
  injection hi with hi; subst hi; intro k hk
  simp only [lT, List.mem_cons, List.not_mem_nil, or_false] at hk
  rcases hk with rfl | rfl
  ·exact h (dat 0) (Array.mem_def.2 (List.mem_of_getElem? (i := 0) rfl)) (hb1 _)
  ·exact h (dat 2) (Array.mem_def.2 (List.mem_of_getElem? (i := 1) rfl)) (hb1 _)
 | 4, _ =>
  injection hi with hi; subst hi; intro k hk
  simp only [lT, List.mem_cons, List.not_mem_nil, or_false] at hk
  subst hk
  ·exact h (dat 3) (Array.mem_def.2 (List.mem_of_getElem? (i := 0) rfl)) (hb1 _)
 | 5, _ =>
  injection hi with hi; subst hi; intro k hk
  simp only [lT, List.mem_cons, List.not_mem_nil, or_false] at hk
  rcases hk with rfl | rfl | rfl
  ·exact h (pha 0) (Array.mem_def.2 (List.mem_of_getElem? (i := 2) rfl)) (hb2 _)
  ·exact h (pha 1) (Array.mem_def.2 (List.mem_of_getElem? (i := 3) rfl)) (hb2 _)
  ·exact h (pha 2) (Array.mem_def.2 (List.mem_of_getElem? (i := 4) rfl)) (hb2 _)
 | 6, _ =>
  injection hi with hi; subst hi; intro k hk
  simp only [lT, List.mem_cons, List.not_mem_nil, or_false] at hk
  subst hk
  ·exact h (dat 5) (Array.mem_def.2 (List.mem_of_getElem? (i := 0) rfl)) (hb1 _)
 | 7, _ =>
  injection hi with hi; subst hi; intro k hk
  simp only [lT, List.mem_cons, List.not_mem_nil, or_false] at hk
  rcases hk with rfl | rfl | rfl | rfl | rfl | rfl | rfl
  ·exact h (pha 0) (Array.mem_def.2 (List.mem_of_getElem? (i := 4) rfl)) (hb2 _)
  ·exact h (pha 1) (Array.mem_def.2 (List.mem_of_getElem? (i := 5) rfl)) (hb2 _)
  ·exact h (pha 2) (Array.mem_def.2 (List.mem_of_getElem? (i := 6) rfl)) (hb2 _)
  ·exact h (pha 3) (Array.mem_def.2 (List.mem_of_getElem? (i := 7) rfl)) (hb2 _)
  ·exact h (pha 4) (Array.mem_def.2 (List.mem_of_getElem? (i := 8) rfl)) (hb2 _)
  ·exact h (pha 5) (Array.mem_def.2 (List.mem_of_getElem? (i := 9) rfl)) (hb2 _)
  ·exact h (pha 6) (Array.mem_def.2 (List.mem_of_getElem? (i := 10) rfl)) (hb2 _)
structure J (b : Nat) (tm0 : List a9) (val : Nat → a9) (H0 H1 H2 : Hp) (l : Array Bool) (tm : List a9) (h : Hp) : Prop where
 sz : l.size = 8
 len : tm.length = tm0.length
 QC : ∀ k, k < 7 → l.getD k false = true → tm[b + k]? = some (val k)
 rest : ∀ x, x < b ∨ b + 7 ≤ x → tm[x]? = tm0[x]?
 dp : ∀ k, l.getD k false = true → ∀ j ∈ lT k, l.getD j false = true
 heap : h = if l.getD 7 false = true then H2 else if l.getD 5 false = true then H1 else H0
theorem J.put {b : Nat} {tm0 : List a9} {val : Nat → a9} {H0 H1 H2 : Hp} {l : Array Bool} {tm : List a9} {h : Hp} (j : J b tm0 val H0 H1 H2 l tm h) (hb : b + 7 ≤ tm0.length) {i : Nat} (hi : i < 8) (hn : l.getD i false = false) (hd : ∀ k ∈ lT i, l.getD k false = true)
  {d : Option Tmp} {v : a9} (hdst : (i < 7 ∧ d = some (b + i) ∧ v = val i) ∨ (i = 7 ∧ d = none)) {h' : Hp} (hh : h' = if (i = 7 ∨ l.getD 7 false = true) then H2 else if (i = 5 ∨ l.getD 5 false = true) then H1 else H0) :
  J b tm0 val H0 H1 H2 (l.setIfInBounds i true) (aD tm d v) h' := by
 have get : ∀ k, (l.setIfInBounds i true).getD k false = true ↔ (k = i ∨ l.getD k false = true) := fun k => by
  by_cases hk : k = i
  ·subst hk
   have : k < l.size := by rw [j.sz]; exact hi
   simp [Array.getD, this]
  ·have hk' : ¬ i = k := fun h => hk h.symm
   simp only [hk, false_or, Array.getD_eq_getD_getElem?, Array.getElem?_setIfInBounds, hk', if_false]; rw [if_neg (fun w => w)]
 refine ⟨by simpa using j.sz, by rw [oR, j.len], fun k hk hl => ?_, fun x hx => ?_, fun k hl q hq => ?_, ?_⟩
 ·rw [lQ]
  rcases hdst with ⟨q1, rfl, rfl⟩ | ⟨q1, rfl⟩
  ·by_cases c : k = i
   ·subst c
    rw [if_pos rfl, if_pos (by rw [j.len]; omega)]
   ·rw [if_neg (fun w => c (by injection w with w; omega))]
    exact j.QC k hk (((get k).1 hl).resolve_left c)
  ·rw [if_neg (fun w => by cases w)]
   exact j.QC k hk (((get k).1 hl).resolve_left (by omega))
 ·rw [lQ]
  rcases hdst with ⟨q1, rfl, rfl⟩ | ⟨q1, rfl⟩
  ·rw [if_neg (fun w => by injection w with w; omega)]
   exact j.rest x hx
  ·rw [if_neg (fun w => by cases w)]
   exact j.rest x hx
 ·rcases (get k).1 hl with rfl | hl
  ·exact (get q).2 (.inr (hd q hq))
  ·exact (get q).2 (.inr (j.dp k hl q hq))
 ·rw [hh]
  have e7 : ((l.setIfInBounds i true).getD 7 false = true) ↔ (i = 7 ∨ l.getD 7 false = true) := (get 7).trans (or_congr_left eq_comm)
  have e5 : ((l.setIfInBounds i true).getD 5 false = true) ↔ (i = 5 ∨ l.getD 5 false = true) := (get 5).trans (or_congr_left eq_comm)
  simp only [e7, e5]
theorem yG : ∀ (ts : List Nat) (tm : List a9), (tX tm ts).length = tm.length
 | [], _ => rfl
 | t :: ts, tm => by rw [tX, yG ts, jQ]
theorem yH : ∀ (ts : List Nat) (tm : List a9) (i : Nat) (v : a9), (tX tm ts)[i]? = some v → v = .aA ∨ (i ∉ ts ∧ tm[i]? = some v)
 | [], tm, i, v, h => .inr ⟨List.not_mem_nil, h⟩
 | t :: ts, tm, i, v, h => by
  rcases yH ts _ i v h with h | ⟨h1, h2⟩
  ·exact .inl h
  ·have e := lQ tm (some t) .aA i
   simp only [aD] at e
   rw [e] at h2
   by_cases c : t = i
   ·subst c
    rw [if_pos rfl] at h2
    split at h2
    ·injection h2 with h2; exact .inl h2.symm
    ·cases h2
   ·rw [if_neg (fun w => c (by injection w))] at h2
    exact .inr ⟨fun w => (List.mem_cons.1 w).elim (fun w => c w.symm) h1, h2⟩
theorem KA {ρ : Ren} {m : Mem} {tm tm2 : List a9} {c : Array Value} (h : RL ρ m tm c) (hl : tm2.length = tm.length) (hg : ∀ (i : Nat) (v : a9), tm2[i]? = some v → v = a9.aA ∨ tm[i]? = some v) : RL ρ m tm2 c :=
 ⟨by rw [hl]; exact h.len, fun i v x hv hx => by
  rcases hg i v hv with rfl | hv
  ·exact .aA x
  ·exact h.at_ i v x hv hx⟩
theorem HP {b mm cc ty : Nat} {pos : String} {tm0 : List a9} {H0 H1 H2 : Hp} {n mid x : Nat} {p : Pt} {z0 st : Int} (hmm : mm < b ∨ b + 7 ≤ mm) (hcc : cc < b ∨ b + 7 ≤ cc) (hlen : b + 7 ≤ tm0.length)
  (hfa : ∀ x, fieldAddr env ty (.ptr x 0) 0 = M.pure (.ptr x 0)) (hm : nth tm0 mm undef = .map mid) (hc : nth tm0 cc undef = .ptr x 0)
  (F1 : Ex (j5 env 161 (.map mid) (ptA p) false) H0 n (.int .i64 z0) H0) (F2 : Ex (j5 env 161 (.map mid) (ptA p) false) H1 n (.int .i64 z0) H1)
  (F3 : Ex (iU env 161 (.map mid) (ptA p)) H0 n (a9.tup [.int .i64 z0, .int .i64 st]) H1) (F4 : Ex (gT (.map mid) (.int .i64 st) (.int .i64 (IntKind.i64.wrap (z0 + 1)))) H1 n undef H2)
  (F5 : Ex (load env 28 (.ptr x 0)) H0 n (ptA p) H0)
  {val : Nat → a9} (v0 : val 0 = .map mid) (v1 : val 1 = .ptr x 0) (v2 : val 2 = ptA p) (v3 : val 3 = .int .i64 z0) (v4 : val 4 = .int .i64 (IntKind.i64.wrap (z0 + 1))) (v5 : val 5 = a9.tup [.int .i64 z0, .int .i64 st]) (v6 : val 6 = .int .i64 st) :
  ∀ listed tm h, listed.size = (EA b mm cc ty pos).size → J b tm0 val H0 H1 H2 listed tm h → ∀ i o, (EA b mm cc ty pos)[i]? = some o → listed.getD i false = false → (∀ e ∈ o.after, Region.binds .any e = true → listed.getD e.on false = true) →
   ∃ v h', Ex (opV env (evalW env) (EA b mm cc ty pos).toList o tm) h n v h' ∧ J b tm0 val H0 H1 H2 (listed.setIfInBounds i true) (aD tm o.dst v) h' := by
 intro listed tm h hsz j i o hi hn hall
 have hd : ∀ k ∈ lT i, listed.getD k false = true := OX (S := fun k => listed.getD k false = true) hi hall
 have hi8 : i < 8 := (Array.getElem?_eq_some_iff.1 hi).1
 have nv : ∀ k, k < 7 → listed.getD k false = true → nth tm (b + k) undef = val k := fun k hk hl => by rw [gJ, j.QC k hk hl]; rfl
 have nr : ∀ y, y < b ∨ b + 7 ≤ y → nth tm y undef = nth tm0 y undef := fun y hy => by rw [gJ, gJ, j.rest y hy]
 have no7 : i < 7 → listed.getD 7 false = false := fun q => by
  cases e : listed.getD 7 false with
  | false => rfl
  | true =>
   have := j.dp 7 e i (by simp only [lT, List.mem_cons, List.not_mem_nil, or_false]; omega)
   rw [hn] at this; cases this
 match i, hi8 with
 | 0, _ =>
  injection hi with hi; subst hi
  have h7 := no7 (by omega)
  refine ⟨val 0, h, ?_, j.put hlen (by omega) hn hd (.inl ⟨by omega, rfl, rfl⟩) (by have := j.heap; simpa using this)⟩
  rw [kF rfl, v0]
  show Ex (M.pure (nth tm mm undef)) _ _ _ _
  rw [nr mm hmm, hm]; exact Ex.pure
 | 1, _ =>
  injection hi with hi; subst hi
  refine ⟨val 1, h, ?_, j.put hlen (by omega) hn hd (.inl ⟨by omega, rfl, rfl⟩) (by have := j.heap; simpa using this)⟩
  rw [kF rfl, v1]
  show Ex (fieldAddr env ty (nth tm cc undef) 0) _ _ _ _
  rw [nr cc hcc, hc, hfa]; exact Ex.pure
 | 2, _ =>
  injection hi with hi; subst hi
  have h7 := no7 (by omega)
  have h5 : listed.getD 5 false = false := by
   cases e : listed.getD 5 false with
   | false => rfl
   | true => have := j.dp 5 e 2 (by simp [lT]); rw [hn] at this; cases this
  have hh : h = H0 := by have := j.heap; rw [h7, h5] at this; simpa using this
  refine ⟨val 2, h, ?_, j.put hlen (by omega) hn hd (.inl ⟨by omega, rfl, rfl⟩) (by have := j.heap; simpa using this)⟩
  rw [kF rfl, v2]
  show Ex (load env 28 (nth tm (b + 1) undef)) _ _ _ _
  rw [nv 1 (by omega) (hd 1 (by simp [lT])), v1, hh]; exact F5
 | 3, _ =>
  injection hi with hi; subst hi
  have h7 := no7 (by omega)
  have hh := j.heap
  rw [h7] at hh
  refine ⟨val 3, h, ?_, j.put hlen (by omega) hn hd (.inl ⟨by omega, rfl, rfl⟩) (by have := j.heap; simpa using this)⟩
  rw [kF rfl, v3]
  show Ex (j5 env 161 (nth tm b undef) (nth tm (b + 2) undef) false) _ _ _ _
  have n0 : nth tm b undef = .map mid := by have := nv 0 (by omega) (hd 0 (by simp [lT])); rw [v0] at this; exact this
  rw [n0, nv 2 (by omega) (hd 2 (by simp [lT])), v2]
  cases e5 : listed.getD 5 false with
  | false => rw [e5] at hh; rw [show h = H0 by simpa using hh]; exact F1
  | true => rw [e5] at hh; rw [show h = H1 by simpa using hh]; exact F2
 | 4, _ =>
  injection hi with hi; subst hi
  refine ⟨val 4, h, ?_, j.put hlen (by omega) hn hd (.inl ⟨by omega, rfl, rfl⟩) (by have := j.heap; simpa using this)⟩
  rw [kF rfl, v4]
  show Ex (binOp env .add 3 (nth tm (b + 3) undef) (.int .i64 1)) _ _ _ _
  rw [nv 3 (by omega) (hd 3 (by simp [lT])), v3]; exact Ex.pure
 | 5, _ =>
  injection hi with hi; subst hi
  have h7 := no7 (by omega)
  have hh := j.heap
  rw [h7, hn] at hh
  have hh : h = H0 := by simpa using hh
  refine ⟨val 5, H1, ?_, j.put hlen (by omega) hn hd (.inl ⟨by omega, rfl, rfl⟩) (by rw [h7]; simp)⟩
  rw [kF rfl, v5]
  show Ex (iU env 161 (nth tm b undef) (nth tm (b + 2) undef)) _ _ _ _
  have n0 : nth tm b undef = .map mid := by have := nv 0 (by omega) (hd 0 (by simp [lT])); rw [v0] at this; exact this
  have l2 : listed.getD 2 false = true := hd 2 (by simp [lT])
  rw [n0, nv 2 (by omega) l2, v2, hh]; exact F3
 | 6, _ =>
  injection hi with hi; subst hi
  refine ⟨val 6, h, ?_, j.put hlen (by omega) hn hd (.inl ⟨by omega, rfl, rfl⟩) (by have := j.heap; simpa using this)⟩
  rw [kF rfl, v6]
  show Ex (extract (nth tm (b + 5) undef) 1) _ _ _ _
  rw [nv 5 (by omega) (hd 5 (by simp [lT])), v5]; exact Ex.pure
 | 7, _ =>
  injection hi with hi; subst hi
  have hh := j.heap
  rw [hn, hd 5 (by simp [lT])] at hh
  have hh : h = H1 := by simpa using hh
  refine ⟨undef, H2, ?_, j.put hlen (by omega) hn hd (.inr ⟨rfl, rfl⟩) (by simp)⟩
  rw [kF rfl]
  show Ex (gT (nth tm b undef) (nth tm (b + 6) undef) (nth tm (b + 4) undef)) _ _ _ _
  have n0 : nth tm b undef = .map mid := by have := nv 0 (by omega) (hd 0 (by simp [lT])); rw [v0] at this; exact this
  rw [n0, nv 6 (by omega) (hd 6 (by simp [lT])), nv 4 (by omega) (hd 4 (by simp [lT])), v6, v4, hh]; exact F4
theorem CD (b mm cc ty : Nat) (pos : String) (id : Nat) (rnd : Option Nat) (hmm : mm < b ∨ b + 7 ≤ mm) (hcc : cc < b ∨ b + 7 ≤ cc)
  (hfa : ∀ x, fieldAddr env ty (.ptr x 0) 0 = M.pure (.ptr x 0)) :
  sR env.P rnd (.region id (EA b mm cc ty pos) true) (pU mm cc [b, b + 1, b + 2, b + 3, b + 4, b + 5, b + 6]) := by
 intro tm e tm' s s' h ho ρ m w a o n Q hr hf ht hn hQ
 unfold pU at h
 split at h
 case h_2 => exact (aH h).elim
 rename_i mid hm
 split at h
 case h_2 => exact (aH h).elim
 rename_i x off hc
 split at h
 case h_2 => exact (aH h).elim
 rename_i hchk
 rw [Bool.and_eq_true] at hchk
 have hoff := Nat.eq_of_beq_eq_true hchk.1
 subst hoff
 have hlen : b + 7 ≤ tm.length := by
  have := List.all_eq_true.1 hchk.2 (b + 6) (by simp)
  have : b + 6 + 1 ≤ tm.length := Nat.le_of_ble_eq_true this
  omega
 obtain ⟨bx, s1, h1, h2⟩ := M.aQ h
 obtain ⟨hg1, e1⟩ := eH h1
 obtain ⟨bm, s2, h3, h4⟩ := M.aQ h2
 obtain ⟨hg2, e2⟩ := eH h3
 split at h4
 case h_2 => exact (aH h4).elim
 rename_i r hb1
 obtain ⟨_, s3, h5, h6⟩ := M.aQ h4
 obtain ⟨he, rfl⟩ := aG h6
 injection he with q1 q2
 subst q1; subst q2
 obtain ⟨hlive, hn3, hset⟩ := oF h5
 obtain ⟨cells, t, rfl, hcells, hp32, rfl, hl32⟩ := E9 hb1
 obtain ⟨p, bb, l⟩ := r
 simp only at hcells hp32 hl32 hset hg2 hlive
 rw [e1.heap] at hg2
 have hmap : gV s.heap.get mid bb (l.map cv) := by unfold gV; rw [List.length_map]; exact hg2
 have hkey : ptA p = .agg (cells.take 33) := by rw [hcells]; rfl
 have F5 : Ex (load env 28 (.ptr x 0)) s.heap.get s.next (ptA p) s.heap.get := by
  have hl : 33 ≤ cells.length := by
   have : (cells.take 33).length = 33 := by rw [hcells]; exact cA hp32
   rw [List.length_take] at this; omega
  have := Row.agg (E := env) (n := s.next) (off := 0) (show Row s.heap.get x cells from ⟨t, hg1⟩) iK rfl (by show 0 + 33 ≤ _; omega)
  rw [List.drop_zero] at this
  rw [hkey]
  exact .rd this
 have hpq : ∀ e ∈ l.map cv, bJ env 28 (ptA p) e.1 = M.pure (isK (ptA p) e.1) := fun e he => by
  obtain ⟨y, hy, rfl⟩ := List.mem_map.1 he
  exact uT p y.1 hp32 (hl32 y hy)
 have main : ∃ (z0 st : Int) (H1 H2 : Hp), Ex (j5 env 161 (.map mid) (ptA p) false) s.heap.get s.next (.int .i64 z0) s.heap.get ∧ Ex (j5 env 161 (.map mid) (ptA p) false) H1 s.next (.int .i64 z0) H1 ∧
   Ex (iU env 161 (.map mid) (ptA p)) s.heap.get s.next (a9.tup [.int .i64 z0, .int .i64 st]) H1 ∧ Ex (gT (.map mid) (.int .i64 st) (.int .i64 (IntKind.i64.wrap (z0 + 1)))) H1 s.next undef H2 ∧
   gV H2 mid bb ((bump p l).map cv) ∧ ∀ j, j ≠ mid → H2 j = s.heap.get j := by
  have hat := yI (p := p) l 0
  have L0 := hmap.lookup (n := s.next) CV (tA p hp32) hpq z3o
  cases hi : idxOf p l 0 with
  | some y =>
   obtain ⟨i, z⟩ := y
   rw [hi] at hat
   obtain ⟨_, hlt, hget⟩ := BI hi
   rw [Nat.sub_zero] at hlt hget
   rw [hat] at L0
   have w1 := hmap.HK (n := s.next) CV (tA p hp32) hpq hat (fun e he => by
    rw [List.getElem?_map, hget] at he
    injection he with he
    rw [← he]; exact ES p)
   obtain ⟨H2, w2, m2, k2⟩ := hmap.store (n := s.next) (i := i) (by rw [List.length_map]; exact hlt) (v := .int .i64 (IntKind.i64.wrap (z + 1)))
   refine ⟨z, _, s.heap.get, H2, .rd L0, .rd L0, .wr w1, .wr w2, ?_, k2⟩
   have e : (l.map cv).modify i (fun e => (e.1, a9.int .i64 (IntKind.i64.wrap (z + 1)))) = (bump p l).map cv := by
    unfold bump
    rw [hi]
    refine List.ext_getElem? fun q => ?_
    rw [List.getElem?_modify, List.getElem?_map, List.getElem?_map, List.getElem?_modify]
    cases l[q]? with
    | none => rfl
    | some y =>
     simp only [Option.map_some, Option.map_eq_map]
     by_cases c : i = q
     ·simp only [if_pos c]; rfl
     ·simp only [if_neg c]
   rw [← e]; exact m2
  | none =>
   rw [hi] at hat
   rw [hat] at L0
   obtain ⟨H1, w1, m1, k1⟩ := hmap.HL (n := s.next) CV (tA p hp32) hpq hat z3o
   have hpq1 : ∀ e ∈ l.map cv ++ [(ptA p, a9.int .i64 0)], bJ env 28 (ptA p) e.1 = M.pure (isK (ptA p) e.1) := fun e he => by
    rcases List.mem_append.1 he with he | he
    ·exact hpq e he
    ·rw [List.mem_singleton] at he
     subst he
     exact uT p p hp32 hp32
   have L1 := m1.lookup (n := s.next) CV (tA p hp32) hpq1 z3o
   have hat1 : ∀ (q : List (a9 × a9)) (i : Nat), fN (isK (ptA p)) q i = none → fN (isK (ptA p)) (q ++ [(ptA p, a9.int .i64 0)]) i = some (i + q.length, .int .i64 0) := fun q => by
    induction q with
    | nil => intro i _; simp only [List.nil_append, fN, m5.2 rfl, if_pos, List.length_nil, Nat.add_zero]
    | cons y q ih =>
     intro i hq
     simp only [fN] at hq
     split at hq
     ·cases hq
     ·rename_i c
      simp only [List.cons_append, fN, if_neg c, ih (i + 1) hq, List.length_cons]
      rw [show i + 1 + q.length = i + (q.length + 1) by omega]
   rw [hat1 _ _ hat] at L1
   obtain ⟨H2, w2, m2, k2⟩ := m1.store (n := s.next) (i := (l.map cv).length) (by simp) (v := .int .i64 (IntKind.i64.wrap (0 + 1)))
   refine ⟨0, _, H1, H2, .rd L0, .rd L1, .wr w1, .wr w2, ?_, fun j hj => by rw [k2 j hj, k1 j hj]⟩
   have e : (l.map cv ++ [(ptA p, a9.int .i64 0)]).modify (l.map cv).length (fun e => (e.1, a9.int .i64 (IntKind.i64.wrap (0 + 1)))) = (bump p l).map cv := by
    unfold bump
    rw [hi, List.map_append]
    refine List.ext_getElem? fun q => ?_
    rw [List.getElem?_modify]
    by_cases c : q < (l.map cv).length
    ·rw [List.getElem?_append_left c, List.getElem?_append_left c]
     simp only [if_neg (show ¬ (l.map cv).length = q by omega)]; simp
    ·rw [List.getElem?_append_right (by omega), List.getElem?_append_right (by omega)]
     by_cases d : q = (l.map cv).length
     ·subst d
      simp [cv, show IntKind.i64.wrap 1 = 1 from rfl]
     ·rw [List.getElem?_eq_none (by simp only [List.length_cons, List.length_nil]; omega), List.getElem?_eq_none (by simp only [List.map_cons, List.map_nil, List.length_cons, List.length_nil]; omega)]; rfl
   rw [← e]; exact m2
 obtain ⟨z0, st, H1, H2, F1, F2, F3, F4, hm2, hk2⟩ := main
 have hH2 : s'.heap.get = H2 := by
  funext j
  rw [hset j]
  by_cases c : j = mid
  ·subst c
   rw [if_pos rfl]
   have := hm2
   unfold gV at this
   rw [this, List.length_map]
  ·rw [if_neg c, e2.heap, e1.heap, hk2 j c]
 have hnx : s'.next = s.next := by rw [hn3, e2.next, e1.next]
 let val : Nat → a9 := fun k => match k with
  | 0 => .map mid | 1 => .ptr x 0 | 2 => ptA p | 3 => .int .i64 z0 | 4 => .int .i64 (IntKind.i64.wrap (z0 + 1)) | 5 => a9.tup [.int .i64 z0, .int .i64 st] | _ => .int .i64 st
 have plan := HP (pos := pos) (n := s.next) (val := val) hmm hcc hlen hfa hm hc F1 F2 F3 F4 F5 rfl rfl rfl rfl rfl rfl rfl
 refine wpIn_region_any env.mixed (JB (n := s.next) (J := J b tm val s.heap.get H1 H2) (pQ (E := env)) plan rfl (ρ₀ := ρ) (m := m) (w₀ := w) (a₀ := a) (fun listed tm1 h1 a1 w1 ρ1 hall hj hr1 ht1 hle hnew hfr hd => ?_) 8 (Array.replicate 8 false) rfl (by simp) a _ ρ s.heap.get tm ?_ hr.drew ht (.refl ρ) (fun _ h => h) (.drew w) rfl)
 ·have hh := hj.heap
  rw [if_pos (hall 7 (show 7 < 8 by decide))] at hh
  subst hh
  refine hQ _ _ _ ρ1 [] ⟨?_, ?_, .normal, hd, .nil m, fun _ => rfl⟩
  ·rw [Mem.gN]
   exact ⟨hle, fun id q => .inl (hnew id q), fun _ _ h => h, by rw [hH2]; exact hr1, hfr, by rw [hnx]; exact Nat.le_refl _⟩
  ·rw [Mem.gN]
   refine KA ht1 (by rw [yG, hj.len]) fun i v hv => ?_
   rcases yH _ _ i v hv with q | ⟨q1, q2⟩
   ·exact .inl q
   ·refine .inr ?_
    rw [hj.rest i (by simp at q1; omega)]
    exact q2
 ·have none : ∀ k, ¬ ((Array.replicate 8 false).getD k false = true) := fun k => by
   by_cases hk : k < 8 <;> simp [Array.getD, hk]
  exact ⟨rfl, rfl, fun k _ q => absurd q (none k), fun _ _ => rfl, fun k q => absurd q (none k), by rw [if_neg (none 7), if_neg (none 5)]⟩
end Go.Am.Ytlgebaofkolkoaa.Ins
set_option linter.unusedSimpArgs false
set_option linter.unusedVariables false
set_option linter.defProp false
set_option maxRecDepth 10000
namespace Go.Am.Ytlgebaofkolkoaa.Ins
open Go Go.Am Go.Proofs
theorem fa31 (x : Nat) : fieldAddr env 31 (.ptr x 0) 0 = M.pure (.ptr x 0) := rfl
theorem fa48 (x : Nat) : fieldAddr env 48 (.ptr x 0) 0 = M.pure (.ptr x 0) := rfl
noncomputable def sQ : List a9 → M (gC × List a9) := pU 3 5 [17, 18, 19, 20, 21, 22, 23]
noncomputable def pW : List a9 → M (gC × List a9) := pU 3 8 [73, 74, 75, 76, 77, 78, 79]
noncomputable def zN : qK Try.prog := ⟨113, 4, .region 4 (EA 17 3 5 31 "coin.go:24") true, sQ, fun rnd => CD 17 3 5 31 "coin.go:24" 4 rnd (by omega) (by omega) fa31⟩
noncomputable def rH : qK Try.prog := ⟨113, 12, .region 12 (EA 73 3 8 48 "coin.go:32") true, pW, fun rnd => CD 73 3 8 48 "coin.go:32" 12 rnd (by omega) (by omega) fa48⟩
theorem wV {P : Program} (h : qK P) (l : List (qK P)) {c : Code} (hc : h.c = c) (hn : (h.fn.beq h.fn && h.id.beq h.id) = true := by simp) : gK (h :: l) h.fn h.id c = some h.act := by
 unfold gK
 rw [hn]
 simp only [hc, if_pos]
end Go.Am.Ytlgebaofkolkoaa.Ins
namespace Go.Am.Ytlgebaofkolkoaa
end Go.Am.Ytlgebaofkolkoaa
set_option linter.unusedSimpArgs false
set_option linter.unusedVariables false
set_option linter.defProp false
set_option maxRecDepth 10000
namespace Go.Am.Ytlgebaofkolkoaa.Ins
open Go Go.Am Go.Proofs
theorem u95 : und env 95 = M.pure (.slice 128) := by simp only [und, pZ, bind_pure]
theorem pX : sizeOf env 128 = M.pure 1 := by simp only [sizeOf, iV, bind_pure]
theorem N0 {h : Hp} {n id len C xid : Nat} {cells : List a9} {xc : bQ} {e' : TypeId} (hh : h id = some (.row (.l cells) 128)) (hC : cells.length = C) (hl : len ≤ C) (hr : 2 * (len + 1) * 8 ≤ 281474976710656) (hr2 : len + 1 ≤ 281474976710656)
  (hx : h xid = some (.row xc e')) (hxc : 0 < xc.size) (hv : bN (xc.at 0) = true) :
  Wp (fR env [95, 95] (.sl id 0 len (some C) 1) (.sl xid 0 1 (some 1) 1)) h n fun v' h' n' =>
   (len + 1 ≤ C ∧ v' = .sl id 0 (len + 1) (some C) 1 ∧ n' = n ∧ h' = upd h id (some (.row (.l (cB cells len [xc.at 0])) 128))) ∨
   (C < len + 1 ∧ v' = .sl n 0 (len + 1) none 1 ∧ n' = n + 1 ∧ h' = upd h n (some (.row (.l (cells.take len ++ [xc.at 0])) 128))) := by
 have hx1 : Rds h 1 (.sl xid 0 1 (some 1) 1) 1 [xc.at 0] := .sl xid 0 1 (some 1) xc e' _ hx rfl (by simp; omega) (fun j hj => by
  have : j = 0 := by simpa using hj
  subst this; rfl)
 have hs : Rds h 1 (.sl id 0 len (some C) 1) len (cells.take len) := .sl id 0 len (some C) (.l cells) 128 _ hh (by rw [List.length_take]; omega) (by rw [List.length_take]; show 0 + _ ≤ cells.length; omega) (fun j hj => by
  rw [List.length_take] at hj
  rw [Nat.zero_add, bQ.tM (by omega), List.getElem_take])
 simp only [fR, u95, bind_pure, fH, append, iV, lenOf, bind_assoc, gM, show (Nat.beq 1 0) = false from rfl]
 refine eQ hx1.cells ?_
 simp only [bR, show (Nat.beq 1 1) = true from rfl, fI, hh, Option.some.injEq, exists_eq_left', cX, gM]
 by_cases hf : len + 1 ≤ C
 ·rw [dC hf]
  have hb : (len + 1).ble cells.length = true := dC (by omega)
  simp only [dX, Nat.zero_add, Nat.mul_one, bind_assoc, fI, hh, Option.some.injEq, exists_eq_left', cX, eY, bQ.size, List.length_singleton, hb, List.all_cons, List.all_nil, hv, Bool.and_true, l8, true_and, wp_pure]
  rw [mN _ _ _ (by simp; omega)]
  exact ⟨by simp, .inl ⟨hf, rfl⟩⟩
 ·rw [iB hf]
  refine eQ hs.cells ?_
  have r1 : ((2 * (len + 1) * 8).ble room && (len + 1).ble room) = true := by
   unfold room
   rw [dC hr, dC hr2]; rfl
  simp only [grown, eY, iH, wp_pure, r1, true_and]
  exact .inr ⟨by omega, trivial⟩
theorem PM {id len C k : Nat} {z : Int} (hz : z = (k : Nat)) (hk : k ≤ C) {h' : Hp} {n' : Nat} : Rd (slice env 95 (.sl id 0 len (some C) 1) none (some (.int .i64 z)) none) h' n' [] (.sl id 0 k (some C) 1) := by
 subst hz
 simp only [slice, u95, pX, bind_pure, bound, cW, bind_assoc, bR, show (Nat.beq 1 1) = true from rfl, Nat.zero_mul, Nat.add_zero, Nat.sub_zero, Int.toNat_natCast]
 exact Rd.bind (i2 := []) (Rd.ob (decide_eq_true ⟨by omega, by omega⟩)) (Rd.pure _)
theorem AU {id len C k : Nat} {z : Int} (hz : z = (k : Nat)) (hk : k ≤ len) (hl : len ≤ C) {h' : Hp} {n' : Nat} : Rd (slice env 95 (.sl id 0 len (some C) 1) (some (.int .i64 z)) none none) h' n' [] (.sl id k (len - k) (some (C - k)) 1) := by
 subst hz
 simp only [slice, u95, pX, bind_pure, bound, cW, bind_assoc, bR, show (Nat.beq 1 1) = true from rfl, Nat.zero_add, Nat.mul_one, Int.toNat_natCast]
 exact Rd.bind (i2 := []) (Rd.ob (decide_eq_true ⟨by omega, by omega⟩)) (Rd.pure _)
theorem IH {id len k : Nat} {z : Int} (hz : z = (k : Nat)) (hk : k ≤ len) {h' : Hp} {n' : Nat} : Rd (slice env 95 (.sl id 0 len none 1) (some (.int .i64 z)) none none) h' n' [] (.sl id k (len - k) none 1) := by
 subst hz
 simp only [slice, kK, u95, pX, bind_pure, bound, cW, bind_assoc, bR, show (Nat.beq 1 1) = true from rfl, Nat.zero_add, Nat.mul_one, Int.toNat_natCast]
 exact Rd.bind (i2 := []) (Rd.ob (decide_eq_true ⟨by omega, by omega⟩)) (Rd.pure _)
theorem XX (m : Nat) : (fQ [a9.eZ] m).length = m := by rw [IS]; simp
theorem MZ {h : Hp} {n id k C m : Nat} {cells : List a9} {z : Int} (hz : z = (m : Nat)) (hh : h id = some (.row (.l cells) 128)) (hC : cells.length = C) (hk : k ≤ C) (hm : 0 < m) (hc : C < k + m) (hr : 2 * (k + m) * 8 ≤ 281474976710656) (hr2 : k + m ≤ 281474976710656) :
  Wp (fR env [95, 3] (.sl id 0 k (some C) 1) (.int .i64 z)) h n fun v' h' n' => v' = .sl n 0 (k + m) none 1 ∧ n' = n + 1 ∧ h' = upd h n (some (.row (.l (cells.take k ++ fQ [.eZ] m)) 128)) := by
 subst hz
 have hs : Rds h 1 (.sl id 0 k (some C) 1) k (cells.take k) := .sl id 0 k (some C) (.l cells) 128 _ hh (by rw [List.length_take]; omega) (by rw [List.length_take]; show 0 + _ ≤ cells.length; omega) (fun j hj => by
  rw [List.length_take] at hj
  rw [Nat.zero_add, bQ.tM (by omega), List.getElem_take])
 have u3 : und env 3 = M.pure (.int .i64) := by simp only [und, ti3, bind_pure]
 have d : decide (0 < ((m : Nat) : Int) ∧ C < k + ((m : Nat) : Int).toNat ∧ 0 < 1 ∧ (a9.eZ.cells.all bN) = true) = true := decide_eq_true ⟨by omega, by rw [Int.toNat_natCast]; omega, by omega, rfl⟩
 have r1 : ((2 * (k + m) * 8).ble room && (k + m).ble room) = true := by
  unfold room
  rw [dC hr, dC hr2]; rfl
 simp only [fR, u3, bind_pure, fH, cW, uW, u95, iV, bR, show (Nat.beq 1 1) = true from rfl, bind_assoc, d, eY, true_and]
 refine eQ hs.cells ?_
 simp only [grown, Int.toNat_natCast, eY, iH, wp_pure, r1, true_and]
 rfl
theorem FM {h : Hp} {n d doff dl sid soff sl m : Nat} {dcap scap : Option Nat} {dc xs : List a9} {e' e2 : TypeId} {c2 : bQ} (hd : h d = some (.row (.l dc) e')) (hs : h sid = some (.row c2 e2)) (hm : min sl dl = m) (h0 : 0 < m) (hf : doff + m ≤ dc.length) (hc : soff + m ≤ c2.size) (hx : c2.sub soff m = xs) (h1 : xs.all bN = true) :
  Wr (copy env 95 (.sl d doff dl dcap 1) (.sl sid soff sl scap 1)) h n [d, sid] [d] (.int .i64 m) (upd h d (some (.row (.l (cB dc doff xs)) e'))) := by
 have hl : xs.length = m := by rw [← hx, bQ.gW hc]
 have hsl : m ≤ sl := by omega
 simp only [copy, u95, bind_pure, lenOf, pX, hm]
 have a0 : (m.beq 0) = false := jW (by omega)
 refine Wr.bind (i1 := []) (rs := [d, sid]) (Rd.ask _) ?_
 rw [a0]
 simp only
 refine Wr.bind (rs := [d]) (i1 := [sid]) (a := xs) ?_ ?_
 ·simp only [eB, bR, show (Nat.beq 1 1) = true from rfl, Nat.mul_one]
  refine Rd.bind (i2 := []) (i1 := [sid]) (Rd.get hs) ?_
  simp only [cX]
  refine Rd.bind (i1 := []) (i2 := []) (Rd.ob (dC hsl)) ?_
  refine Rd.bind (i1 := []) (i2 := []) (Rd.ob (dC hc)) ?_
  rw [hx]
  exact Rd.pure _
 simp only [bR, show (Nat.beq 1 1) = true from rfl]
 refine Wr.ret (a := ()) ?_
 simp only [dX]
 refine Wr.bind (rs := []) (i1 := [d]) (Rd.get hd) ?_
 simp only [cX, bQ.size]
 refine Wr.bind (rs := []) (i1 := []) (Rd.ob (dC (by omega))) ?_
 simp only [h1]
 rw [mN _ _ _ (by omega)]
 exact Wr.set hd
theorem BH {α : Type} {ys : List α} {k : Nat} {v : α} (hk : k ≤ ys.length) (j : Nat) : (fW ys k v)[j]? = if j < k then ys[j]? else if j = k then some v else ys[j - 1]? := by
 have hl : (ys.take k).length = k := by rw [List.length_take]; omega
 unfold fW
 by_cases a : j < k
 ·rw [if_pos a, List.getElem?_append_left (by omega), List.getElem?_take, if_pos a]
 ·rw [if_neg a, List.getElem?_append_right (by omega), hl]
  by_cases b : j = k
  ·subst b; rw [if_pos rfl, Nat.sub_self]; rfl
  ·rw [if_neg b, show j - k = (j - k - 1) + 1 by omega, List.getElem?_cons_succ, List.getElem?_drop]
   congr 1; omega
theorem N3 {xs ys : List a9} {k len : Nat} {v : a9} (hy : ys.length = len) (hk : k < len) (hx : len + 1 ≤ xs.length) (he : ∀ j, j < k → xs[j]? = ys[j]?) : (cB (cB xs k [v]) (k + 1) (ys.drop k)).take (len + 1) = fW ys k v := by
 have h1 : (cB xs k [v]).length = xs.length := fJ (by simp; omega)
 have h2 : (ys.drop k).length = len - k := by rw [List.length_drop, hy]
 refine List.ext_getElem? fun j => ?_
 rw [BH (by omega)]
 by_cases hj : j < len + 1
 ·rw [List.getElem?_take, if_pos hj, pI (by rw [h1, h2]; omega), h2, pI (by simp; omega)]
  simp only [List.length_singleton]
  by_cases a : j < k
  ·rw [if_neg (by omega), if_neg (by omega), if_pos a, he j a]
  ·by_cases b : j = k
   ·subst b; rw [if_neg (by omega), if_pos (by omega), if_neg a, if_pos rfl, Nat.sub_self]; rfl
   ·rw [if_pos (by omega), if_neg a, if_neg b, List.getElem?_drop]
    congr 1; omega
 ·rw [List.getElem?_eq_none (by rw [List.length_take]; omega), if_neg (by omega), if_neg (by omega), List.getElem?_eq_none (by omega)]
theorem OL {xs : List a9} {k len : Nat} {v : a9} (hk : k < len) (hx : len + 1 ≤ xs.length) : (cB (cB xs (k + 1) ((xs.take len).drop k)) k [v]).take (len + 1) = fW (xs.take len) k v := by
 have hy : (xs.take len).length = len := by rw [List.length_take]; omega
 have h2 : ((xs.take len).drop k).length = len - k := by rw [List.length_drop, hy]
 have h1 : (cB xs (k + 1) ((xs.take len).drop k)).length = xs.length := fJ (by rw [h2]; omega)
 refine List.ext_getElem? fun j => ?_
 rw [BH (by omega)]
 by_cases hj : j < len + 1
 ·rw [List.getElem?_take, if_pos hj, pI (by simp; omega), pI (by rw [h2]; omega), h2]
  simp only [List.length_singleton]
  by_cases a : j < k
  ·rw [if_neg (by omega), if_neg (by omega), if_pos a, List.getElem?_take, if_pos (by omega)]
  ·by_cases b : j = k
   ·subst b; rw [if_pos (by omega), if_neg a, if_pos rfl, Nat.sub_self]; rfl
   ·rw [if_neg (by omega), if_pos (by omega), if_neg a, if_neg b, List.getElem?_drop]
    congr 1; omega
 ·rw [List.getElem?_eq_none (by rw [List.length_take]; omega), if_neg (by omega), if_neg (by omega), List.getElem?_eq_none (by omega)]
theorem WQ {h : Hp} {n xid id off len l2 off2 : Nat} {c1 c2 : Option Nat} {xc c : bQ} {e' : TypeId} (hx : h xid = some (.row xc 128)) (hh : h id = some (.row c e')) (hne : xid ≠ id) (h1 : 0 < len) (h2 : 0 < l2) (h3 : 0 < c.size) :
  Wp (gS 128 [.sl xid off len c1 1, .sl id off2 l2 c2 1]) h n fun v' h' n' => v' = .bool false ∧ h' = h ∧ n' = n := by
 have b1 : (xid.beq id) = false := jW hne
 have b2 : Nat.blt 0 len = true := Nat.ble_eq_true_of_le h1
 have b3 : Nat.blt 0 l2 = true := Nat.ble_eq_true_of_le h2
 have b4 : Nat.blt 0 c.size = true := Nat.ble_eq_true_of_le h3
 simp only [gS, eY, b1, b2, b3, b4, Bool.not_false, Bool.and_self, true_and, fI, hx, hh, Option.some.injEq, exists_eq_left', cX, Nat.beq_refl, wp_pure, and_self]
set_option maxHeartbeats 8000000 in
theorem f104 (h : Hp) (n : Nat) (id len C k xid : Nat) (cells : List a9) (xc : bQ) (hh : h id = some (.row (.l cells) 128)) (hC : cells.length = C) (hl : len ≤ C) (h0 : 0 < C) (hr : 2 * (len + 1) * 8 ≤ 281474976710656) (hr2 : len + 1 ≤ 281474976710656) (hk : k ≤ len) (h1 : (cells.take len).all bN = true)
  (hx : h xid = some (.row xc 128)) (hxc : 0 < xc.size) (hv : bN (xc.at 0) = true) (hxn : xid < n) (hin : id < n) (hne : xid ≠ id) :
  Wp (bD env (evalW env) 104 [.sl id 0 len (some C) 1, .int .i64 (k : Nat), .sl xid 0 1 (some 1) 1]) h n fun v' h' n' =>
   (v' = .sl id 0 (len + 1) (some C) 1 ∧ n' = n ∧ len + 1 ≤ C ∧ ∃ cells', cells'.length = C ∧ cells'.take (len + 1) = fW (cells.take len) k (xc.at 0) ∧ ∀ j, h' j = if j = id then some (.row (.l cells') 128) else h j) ∨
   (v' = .sl n 0 (len + 1) none 1 ∧ n' = n + 1 ∧ ∀ j, h' j = if j = n then some (.row (.l (fW (cells.take len) k (xc.at 0))) 128) else h j) := by
 refine bL PY PX ?_
 have hs : Rds h 1 (.sl id 0 len (some C) 1) len (cells.take len) := .sl id 0 len (some C) (.l cells) 128 _ hh (by rw [List.length_take]; omega) (by rw [List.length_take]; show 0 + _ ≤ cells.length; omega) (fun j hj => by
  rw [List.length_take] at hj
  rw [Nat.zero_add, bQ.tM (by omega), List.getElem_take])
 simp only [yM, Try.f104, Option.getD_some, List.replicate, aC, bH, dN, u8, tyr, fgr, hkr, execOp, opd, bG, opt, ofValue, eM, ofList, dE, aD, put, nth, aB, aL, aE, builtin, dH, fC, eP, dJ, min2, max2, blr, eT, fH, und, sizeOf, zeroOf, lenOf, bor, aJ, bE, aK, cP, intOp, bU, strOp, dG, cW, slK, dU, unOp, bC, branch, idx, bI, cellsOf, oneOf, eK, cel, alloc, cN, newRow, nilCheck, extract, aZ, ended, aT, aU, cX, dW, aS, fieldAddr, field, part, index, bR, bJ, equal, cZ, cH, dO, dT, eC, cJ, List.getElem?_cons_succ, List.getElem?_cons_zero, List.append_eq, List.cons_append, List.nil_append, List.append_nil, List.length_cons, List.length_nil, Nat.reduceAdd, Nat.reduceSub, Nat.beq, Option.bind_some, nc0, nc1, Int.cast_ofNat_Int, cV, cU, cT, ↓reduceIte, Int.reduceEq, Int.reduceLT, Int.reduceLE, Int.reduceNe, Int.reduceAdd, Int.reduceSub, Int.reduceMul, Int.reduceNeg, Int.reduceGT, Int.reduceGE, ge_iff_le, gt_iff_lt, not_true_eq_false, not_false_eq_true, decide_not, decide_true, decide_false, Bool.not_true, Bool.not_false, Bool.and_true, Bool.true_and, Bool.and_false, Bool.false_and, Bool.or_true, Bool.true_or, Bool.or_false, Bool.false_or, and_true, true_and, and_self, Nat.zero_add, Nat.add_zero, Int.toNat_zero, Nat.zero_mul, wp_pure, beq_self_eq_true, bne_self_eq_false, reduceCtorEq]
 rw [aM (hs.zK u95 pX rfl hk)]
 by_cases ek : k = len
 ·subst ek
  have ei : (((k : Nat) : Int) = ((k : Nat) : Int)) = True := by simp
  have hI : fW (cells.take k) k (xc.at 0) = cells.take k ++ [xc.at 0] := by
   have hlt : (cells.take k).length = k := by rw [List.length_take]; omega
   unfold fW
   rw [List.take_of_length_le (Nat.le_of_eq hlt), List.drop_eq_nil_of_le (Nat.le_of_eq hlt)]
  simp only [aC, bH, dN, u8, tyr, fgr, hkr, execOp, opd, bG, opt, ofValue, eM, ofList, dE, aD, put, nth, aB, aL, aE, builtin, dH, fC, eP, dJ, min2, max2, blr, eT, fH, und, sizeOf, zeroOf, lenOf, bor, aJ, bE, aK, cP, intOp, bU, strOp, dG, cW, slK, dU, unOp, bC, branch, idx, bI, cellsOf, oneOf, eK, cel, alloc, cN, newRow, nilCheck, extract, aZ, ended, aT, aU, cX, dW, aS, fieldAddr, field, part, index, bR, bJ, equal, cZ, cH, dO, dT, eC, cJ, List.getElem?_cons_succ, List.getElem?_cons_zero, List.append_eq, List.cons_append, List.nil_append, List.append_nil, List.length_cons, List.length_nil, Nat.reduceAdd, Nat.reduceSub, Nat.beq, Option.bind_some, nc0, nc1, Int.cast_ofNat_Int, cV, cU, cT, ↓reduceIte, Int.reduceEq, Int.reduceLT, Int.reduceLE, Int.reduceNe, Int.reduceAdd, Int.reduceSub, Int.reduceMul, Int.reduceNeg, Int.reduceGT, Int.reduceGE, ge_iff_le, gt_iff_lt, not_true_eq_false, not_false_eq_true, decide_not, decide_true, decide_false, Bool.not_true, Bool.not_false, Bool.and_true, Bool.true_and, Bool.and_false, Bool.false_and, Bool.or_true, Bool.true_or, Bool.or_false, Bool.false_or, and_true, true_and, and_self, Nat.zero_add, Nat.add_zero, Int.toNat_zero, Nat.zero_mul, wp_pure, beq_self_eq_true, bne_self_eq_false, reduceCtorEq, ei]
  refine wp_mono (N0 hh hC hl hr hr2 hx hxc hv) fun v' h' n' hq => ?_
  rcases hq with ⟨c1, rfl, rfl, rfl⟩ | ⟨c1, rfl, rfl, rfl⟩
  ·simp only [aC, bH, dN, u8, tyr, fgr, hkr, execOp, opd, bG, opt, ofValue, eM, ofList, dE, aD, put, nth, aB, aL, aE, builtin, dH, fC, eP, dJ, min2, max2, blr, eT, fH, und, sizeOf, zeroOf, lenOf, bor, aJ, bE, aK, cP, intOp, bU, strOp, dG, cW, slK, dU, unOp, bC, branch, idx, bI, cellsOf, oneOf, eK, cel, alloc, cN, newRow, nilCheck, extract, aZ, ended, aT, aU, cX, dW, aS, fieldAddr, field, part, index, bR, bJ, equal, cZ, cH, dO, dT, eC, cJ, List.getElem?_cons_succ, List.getElem?_cons_zero, List.append_eq, List.cons_append, List.nil_append, List.append_nil, List.length_cons, List.length_nil, Nat.reduceAdd, Nat.reduceSub, Nat.beq, Option.bind_some, nc0, nc1, Int.cast_ofNat_Int, cV, cU, cT, ↓reduceIte, Int.reduceEq, Int.reduceLT, Int.reduceLE, Int.reduceNe, Int.reduceAdd, Int.reduceSub, Int.reduceMul, Int.reduceNeg, Int.reduceGT, Int.reduceGE, ge_iff_le, gt_iff_lt, not_true_eq_false, not_false_eq_true, decide_not, decide_true, decide_false, Bool.not_true, Bool.not_false, Bool.and_true, Bool.true_and, Bool.and_false, Bool.false_and, Bool.or_true, Bool.true_or, Bool.or_false, Bool.false_or, and_true, true_and, and_self, Nat.zero_add, Nat.add_zero, Int.toNat_zero, Nat.zero_mul, wp_pure, beq_self_eq_true, bne_self_eq_false, reduceCtorEq]
   refine .inl ⟨c1, _, by rw [fJ (by simp; omega)]; exact hC, ?_, fun j => rfl⟩
   rw [hI, show k + 1 = k + ([xc.at 0] : List a9).length from rfl, oE (by simp; omega)]
  ·simp only [aC, bH, dN, u8, tyr, fgr, hkr, execOp, opd, bG, opt, ofValue, eM, ofList, dE, aD, put, nth, aB, aL, aE, builtin, dH, fC, eP, dJ, min2, max2, blr, eT, fH, und, sizeOf, zeroOf, lenOf, bor, aJ, bE, aK, cP, intOp, bU, strOp, dG, cW, slK, dU, unOp, bC, branch, idx, bI, cellsOf, oneOf, eK, cel, alloc, cN, newRow, nilCheck, extract, aZ, ended, aT, aU, cX, dW, aS, fieldAddr, field, part, index, bR, bJ, equal, cZ, cH, dO, dT, eC, cJ, List.getElem?_cons_succ, List.getElem?_cons_zero, List.append_eq, List.cons_append, List.nil_append, List.append_nil, List.length_cons, List.length_nil, Nat.reduceAdd, Nat.reduceSub, Nat.beq, Option.bind_some, nc0, nc1, Int.cast_ofNat_Int, cV, cU, cT, ↓reduceIte, Int.reduceEq, Int.reduceLT, Int.reduceLE, Int.reduceNe, Int.reduceAdd, Int.reduceSub, Int.reduceMul, Int.reduceNeg, Int.reduceGT, Int.reduceGE, ge_iff_le, gt_iff_lt, not_true_eq_false, not_false_eq_true, decide_not, decide_true, decide_false, Bool.not_true, Bool.not_false, Bool.and_true, Bool.true_and, Bool.and_false, Bool.false_and, Bool.or_true, Bool.true_or, Bool.or_false, Bool.false_or, and_true, true_and, and_self, Nat.zero_add, Nat.add_zero, Int.toNat_zero, Nat.zero_mul, wp_pure, beq_self_eq_true, bne_self_eq_false, reduceCtorEq]
   refine .inr fun j => ?_
   rw [hI]; rfl
 have hkl : k < len := by omega
 have ei : (((k : Nat) : Int) = ((len : Nat) : Int)) = False := by simp; omega
 simp (disch := omega) only [aC, bH, dN, u8, tyr, fgr, hkr, execOp, opd, bG, opt, ofValue, eM, ofList, dE, aD, put, nth, aB, aL, aE, builtin, dH, fC, eP, dJ, min2, max2, blr, eT, fH, und, sizeOf, zeroOf, lenOf, bor, aJ, bE, aK, cP, intOp, bU, strOp, dG, cW, slK, dU, unOp, bC, branch, idx, bI, cellsOf, oneOf, eK, cel, alloc, cN, newRow, nilCheck, extract, aZ, ended, aT, aU, cX, dW, aS, fieldAddr, field, part, index, bR, bJ, equal, cZ, cH, dO, dT, eC, cJ, List.getElem?_cons_succ, List.getElem?_cons_zero, List.append_eq, List.cons_append, List.nil_append, List.append_nil, List.length_cons, List.length_nil, Nat.reduceAdd, Nat.reduceSub, Nat.beq, Option.bind_some, nc0, nc1, Int.cast_ofNat_Int, cV, cU, cT, ↓reduceIte, Int.reduceEq, Int.reduceLT, Int.reduceLE, Int.reduceNe, Int.reduceAdd, Int.reduceSub, Int.reduceMul, Int.reduceNeg, Int.reduceGT, Int.reduceGE, ge_iff_le, gt_iff_lt, not_true_eq_false, not_false_eq_true, decide_not, decide_true, decide_false, Bool.not_true, Bool.not_false, Bool.and_true, Bool.true_and, Bool.and_false, Bool.false_and, Bool.or_true, Bool.true_or, Bool.or_false, Bool.false_or, and_true, true_and, and_self, Nat.zero_add, Nat.add_zero, Int.toNat_zero, Nat.zero_mul, wp_pure, beq_self_eq_true, bne_self_eq_false, reduceCtorEq, ei, PC, LR, w64]
 by_cases ec : C < len + 1
 ·have e1 : (((C : Nat) : Int) < ((len : Nat) : Int) + 1) = True := by simp; omega
  simp only [aC, bH, dN, u8, tyr, fgr, hkr, execOp, opd, bG, opt, ofValue, eM, ofList, dE, aD, put, nth, aB, aL, aE, builtin, dH, fC, eP, dJ, min2, max2, blr, eT, fH, und, sizeOf, zeroOf, lenOf, bor, aJ, bE, aK, cP, intOp, bU, strOp, dG, cW, slK, dU, unOp, bC, branch, idx, bI, cellsOf, oneOf, eK, cel, alloc, cN, newRow, nilCheck, extract, aZ, ended, aT, aU, cX, dW, aS, fieldAddr, field, part, index, bR, bJ, equal, cZ, cH, dO, dT, eC, cJ, List.getElem?_cons_succ, List.getElem?_cons_zero, List.append_eq, List.cons_append, List.nil_append, List.append_nil, List.length_cons, List.length_nil, Nat.reduceAdd, Nat.reduceSub, Nat.beq, Option.bind_some, nc0, nc1, Int.cast_ofNat_Int, cV, cU, cT, ↓reduceIte, Int.reduceEq, Int.reduceLT, Int.reduceLE, Int.reduceNe, Int.reduceAdd, Int.reduceSub, Int.reduceMul, Int.reduceNeg, Int.reduceGT, Int.reduceGE, ge_iff_le, gt_iff_lt, not_true_eq_false, not_false_eq_true, decide_not, decide_true, decide_false, Bool.not_true, Bool.not_false, Bool.and_true, Bool.true_and, Bool.and_false, Bool.false_and, Bool.or_true, Bool.true_or, Bool.or_false, Bool.false_or, and_true, true_and, and_self, Nat.zero_add, Nat.add_zero, Int.toNat_zero, Nat.zero_mul, wp_pure, beq_self_eq_true, bne_self_eq_false, reduceCtorEq, e1]
  rw [aM (PM rfl (by omega))]
  simp (disch := omega) only [aC, bH, dN, u8, tyr, fgr, hkr, execOp, opd, bG, opt, ofValue, eM, ofList, dE, aD, put, nth, aB, aL, aE, builtin, dH, fC, eP, dJ, min2, max2, blr, eT, fH, und, sizeOf, zeroOf, lenOf, bor, aJ, bE, aK, cP, intOp, bU, strOp, dG, cW, slK, dU, unOp, bC, branch, idx, bI, cellsOf, oneOf, eK, cel, alloc, cN, newRow, nilCheck, extract, aZ, ended, aT, aU, cX, dW, aS, fieldAddr, field, part, index, bR, bJ, equal, cZ, cH, dO, dT, eC, cJ, List.getElem?_cons_succ, List.getElem?_cons_zero, List.append_eq, List.cons_append, List.nil_append, List.append_nil, List.length_cons, List.length_nil, Nat.reduceAdd, Nat.reduceSub, Nat.beq, Option.bind_some, nc0, nc1, Int.cast_ofNat_Int, cV, cU, cT, ↓reduceIte, Int.reduceEq, Int.reduceLT, Int.reduceLE, Int.reduceNe, Int.reduceAdd, Int.reduceSub, Int.reduceMul, Int.reduceNeg, Int.reduceGT, Int.reduceGE, ge_iff_le, gt_iff_lt, not_true_eq_false, not_false_eq_true, decide_not, decide_true, decide_false, Bool.not_true, Bool.not_false, Bool.and_true, Bool.true_and, Bool.and_false, Bool.false_and, Bool.or_true, Bool.true_or, Bool.or_false, Bool.false_or, and_true, true_and, and_self, Nat.zero_add, Nat.add_zero, Int.toNat_zero, Nat.zero_mul, wp_pure, beq_self_eq_true, bne_self_eq_false, reduceCtorEq, w64]
  refine wp_mono (MZ (m := len + 1 - k) (by omega) hh hC (by omega) (by omega) (by omega) (by omega) (by omega)) fun v' h' n' ⟨e1, e2, e3⟩ => ?_
  subst e1; subst e2; subst e3
  rw [show k + (len + 1 - k) = len + 1 by omega]
  simp (disch := omega) only [aC, bH, dN, u8, tyr, fgr, hkr, execOp, opd, bG, opt, ofValue, eM, ofList, dE, aD, put, nth, aB, aL, aE, builtin, dH, fC, eP, dJ, min2, max2, blr, eT, fH, und, sizeOf, zeroOf, lenOf, bor, aJ, bE, aK, cP, intOp, bU, strOp, dG, cW, slK, dU, unOp, bC, branch, idx, bI, cellsOf, oneOf, eK, cel, alloc, cN, newRow, nilCheck, extract, aZ, ended, aT, aU, cX, dW, aS, fieldAddr, field, part, index, bR, bJ, equal, cZ, cH, dO, dT, eC, cJ, List.getElem?_cons_succ, List.getElem?_cons_zero, List.append_eq, List.cons_append, List.nil_append, List.append_nil, List.length_cons, List.length_nil, Nat.reduceAdd, Nat.reduceSub, Nat.beq, Option.bind_some, nc0, nc1, Int.cast_ofNat_Int, cV, cU, cT, ↓reduceIte, Int.reduceEq, Int.reduceLT, Int.reduceLE, Int.reduceNe, Int.reduceAdd, Int.reduceSub, Int.reduceMul, Int.reduceNeg, Int.reduceGT, Int.reduceGE, ge_iff_le, gt_iff_lt, not_true_eq_false, not_false_eq_true, decide_not, decide_true, decide_false, Bool.not_true, Bool.not_false, Bool.and_true, Bool.true_and, Bool.and_false, Bool.false_and, Bool.or_true, Bool.true_or, Bool.or_false, Bool.false_or, and_true, true_and, and_self, Nat.zero_add, Nat.add_zero, Int.toNat_zero, Nat.zero_mul, wp_pure, beq_self_eq_true, bne_self_eq_false, reduceCtorEq, w64]
  rw [aM (IH rfl (by omega))]
  simp (disch := omega) only [aC, bH, dN, u8, tyr, fgr, hkr, execOp, opd, bG, opt, ofValue, eM, ofList, dE, aD, put, nth, aB, aL, aE, builtin, dH, fC, eP, dJ, min2, max2, blr, eT, fH, und, sizeOf, zeroOf, lenOf, bor, aJ, bE, aK, cP, intOp, bU, strOp, dG, cW, slK, dU, unOp, bC, branch, idx, bI, cellsOf, oneOf, eK, cel, alloc, cN, newRow, nilCheck, extract, aZ, ended, aT, aU, cX, dW, aS, fieldAddr, field, part, index, bR, bJ, equal, cZ, cH, dO, dT, eC, cJ, List.getElem?_cons_succ, List.getElem?_cons_zero, List.append_eq, List.cons_append, List.nil_append, List.append_nil, List.length_cons, List.length_nil, Nat.reduceAdd, Nat.reduceSub, Nat.beq, Option.bind_some, nc0, nc1, Int.cast_ofNat_Int, cV, cU, cT, ↓reduceIte, Int.reduceEq, Int.reduceLT, Int.reduceLE, Int.reduceNe, Int.reduceAdd, Int.reduceSub, Int.reduceMul, Int.reduceNeg, Int.reduceGT, Int.reduceGE, ge_iff_le, gt_iff_lt, not_true_eq_false, not_false_eq_true, decide_not, decide_true, decide_false, Bool.not_true, Bool.not_false, Bool.and_true, Bool.true_and, Bool.and_false, Bool.false_and, Bool.or_true, Bool.true_or, Bool.or_false, Bool.false_or, and_true, true_and, and_self, Nat.zero_add, Nat.add_zero, Int.toNat_zero, Nat.zero_mul, wp_pure, beq_self_eq_true, bne_self_eq_false, reduceCtorEq, w64]
  have hh1 := aW h n (some (Blk.row (bQ.l (cells.take k ++ fQ [a9.eZ] (len + 1 - k))) 128))
  have hL1 : (cells.take k ++ fQ [a9.eZ] (len + 1 - k)).length = len + 1 := by rw [List.length_append, List.length_take, XX]; omega
  have hxs : xc.sub 0 1 = [xc.at 0] := bQ.sub_one hxc
  rw [dR (FM (m := 1) hh1 ((aP _ _ (by omega)).trans hx) (by omega) (by omega) (by rw [hL1]; omega) hxc hxs (by simp [hv]))]
  simp (disch := omega) only [aC, bH, dN, u8, tyr, fgr, hkr, execOp, opd, bG, opt, ofValue, eM, ofList, dE, aD, put, nth, aB, aL, aE, builtin, dH, fC, eP, dJ, min2, max2, blr, eT, fH, und, sizeOf, zeroOf, lenOf, bor, aJ, bE, aK, cP, intOp, bU, strOp, dG, cW, slK, dU, unOp, bC, branch, idx, bI, cellsOf, oneOf, eK, cel, alloc, cN, newRow, nilCheck, extract, aZ, ended, aT, aU, cX, dW, aS, fieldAddr, field, part, index, bR, bJ, equal, cZ, cH, dO, dT, eC, cJ, List.getElem?_cons_succ, List.getElem?_cons_zero, List.append_eq, List.cons_append, List.nil_append, List.append_nil, List.length_cons, List.length_nil, Nat.reduceAdd, Nat.reduceSub, Nat.beq, Option.bind_some, nc0, nc1, Int.cast_ofNat_Int, cV, cU, cT, ↓reduceIte, Int.reduceEq, Int.reduceLT, Int.reduceLE, Int.reduceNe, Int.reduceAdd, Int.reduceSub, Int.reduceMul, Int.reduceNeg, Int.reduceGT, Int.reduceGE, ge_iff_le, gt_iff_lt, not_true_eq_false, not_false_eq_true, decide_not, decide_true, decide_false, Bool.not_true, Bool.not_false, Bool.and_true, Bool.true_and, Bool.and_false, Bool.false_and, Bool.or_true, Bool.true_or, Bool.or_false, Bool.false_or, and_true, true_and, and_self, Nat.zero_add, Nat.add_zero, Int.toNat_zero, Nat.zero_mul, wp_pure, beq_self_eq_true, bne_self_eq_false, reduceCtorEq, w64]
  generalize hH : upd (upd h n (some (Blk.row (bQ.l (cells.take k ++ fQ [a9.eZ] (len + 1 - k))) 128))) n (some (Blk.row (bQ.l (cB (cells.take k ++ fQ [a9.eZ] (len + 1 - k)) k [xc.at 0])) 128)) = H
  have hHo : ∀ j, j ≠ n → H j = h j := fun j hj => by rw [← hH, aP _ _ hj, aP _ _ hj]
  have hHn : H n = some (Blk.row (bQ.l (cB (cells.take k ++ fQ [a9.eZ] (len + 1 - k)) k [xc.at 0])) 128) := by rw [← hH, aW]
  refine cG ⟨rfl, ?_⟩
  simp (disch := omega) only [bY, aF, cS, cM, cR, lS, gD, jT, mD, oV, eX, oT, aI, kH, aC, bH, dN, u8, tyr, fgr, hkr, execOp, opd, bG, opt, ofValue, eM, ofList, dE, aD, put, nth, aB, aL, aE, builtin, dH, fC, eP, dJ, min2, max2, blr, eT, fH, und, sizeOf, zeroOf, lenOf, bor, aJ, bE, aK, cP, intOp, bU, strOp, dG, cW, slK, dU, unOp, bC, branch, idx, bI, cellsOf, oneOf, eK, cel, alloc, cN, newRow, nilCheck, extract, aZ, ended, aT, aU, cX, dW, aS, fieldAddr, field, part, index, bR, bJ, equal, cZ, cH, dO, dT, eC, cJ, List.getElem?_cons_succ, List.getElem?_cons_zero, List.append_eq, List.cons_append, List.nil_append, List.append_nil, List.length_cons, List.length_nil, Nat.reduceAdd, Nat.reduceSub, Nat.beq, Option.bind_some, nc0, nc1, Int.cast_ofNat_Int, cV, cU, cT, ↓reduceIte, Int.reduceEq, Int.reduceLT, Int.reduceLE, Int.reduceNe, Int.reduceAdd, Int.reduceSub, Int.reduceMul, Int.reduceNeg, Int.reduceGT, Int.reduceGE, ge_iff_le, gt_iff_lt, not_true_eq_false, not_false_eq_true, decide_not, decide_true, decide_false, Bool.not_true, Bool.not_false, Bool.and_true, Bool.true_and, Bool.and_false, Bool.false_and, Bool.or_true, Bool.true_or, Bool.or_false, Bool.false_or, and_true, true_and, and_self, Nat.zero_add, Nat.add_zero, Int.toNat_zero, Nat.zero_mul, wp_pure, beq_self_eq_true, bne_self_eq_false, reduceCtorEq, w64]
  rw [bP (IH (k := k + 1) (by omega) (by omega))]
  simp (disch := omega) only [bY, aF, cS, cM, cR, lS, gD, jT, mD, oV, eX, oT, aI, kH, aC, bH, dN, u8, tyr, fgr, hkr, execOp, opd, bG, opt, ofValue, eM, ofList, dE, aD, put, nth, aB, aL, aE, builtin, dH, fC, eP, dJ, min2, max2, blr, eT, fH, und, sizeOf, zeroOf, lenOf, bor, aJ, bE, aK, cP, intOp, bU, strOp, dG, cW, slK, dU, unOp, bC, branch, idx, bI, cellsOf, oneOf, eK, cel, alloc, cN, newRow, nilCheck, extract, aZ, ended, aT, aU, cX, dW, aS, fieldAddr, field, part, index, bR, bJ, equal, cZ, cH, dO, dT, eC, cJ, List.getElem?_cons_succ, List.getElem?_cons_zero, List.append_eq, List.cons_append, List.nil_append, List.append_nil, List.length_cons, List.length_nil, Nat.reduceAdd, Nat.reduceSub, Nat.beq, Option.bind_some, nc0, nc1, Int.cast_ofNat_Int, cV, cU, cT, ↓reduceIte, Int.reduceEq, Int.reduceLT, Int.reduceLE, Int.reduceNe, Int.reduceAdd, Int.reduceSub, Int.reduceMul, Int.reduceNeg, Int.reduceGT, Int.reduceGE, ge_iff_le, gt_iff_lt, not_true_eq_false, not_false_eq_true, decide_not, decide_true, decide_false, Bool.not_true, Bool.not_false, Bool.and_true, Bool.true_and, Bool.and_false, Bool.false_and, Bool.or_true, Bool.true_or, Bool.or_false, Bool.false_or, and_true, true_and, and_self, Nat.zero_add, Nat.add_zero, Int.toNat_zero, Nat.zero_mul, wp_pure, beq_self_eq_true, bne_self_eq_false, reduceCtorEq, w64]
  rw [bP (AU (k := k) (by omega) (by omega) (by omega))]
  simp (disch := omega) only [bY, aF, cS, cM, cR, lS, gD, jT, mD, oV, eX, oT, aI, kH, aC, bH, dN, u8, tyr, fgr, hkr, execOp, opd, bG, opt, ofValue, eM, ofList, dE, aD, put, nth, aB, aL, aE, builtin, dH, fC, eP, dJ, min2, max2, blr, eT, fH, und, sizeOf, zeroOf, lenOf, bor, aJ, bE, aK, cP, intOp, bU, strOp, dG, cW, slK, dU, unOp, bC, branch, idx, bI, cellsOf, oneOf, eK, cel, alloc, cN, newRow, nilCheck, extract, aZ, ended, aT, aU, cX, dW, aS, fieldAddr, field, part, index, bR, bJ, equal, cZ, cH, dO, dT, eC, cJ, List.getElem?_cons_succ, List.getElem?_cons_zero, List.append_eq, List.cons_append, List.nil_append, List.append_nil, List.length_cons, List.length_nil, Nat.reduceAdd, Nat.reduceSub, Nat.beq, Option.bind_some, nc0, nc1, Int.cast_ofNat_Int, cV, cU, cT, ↓reduceIte, Int.reduceEq, Int.reduceLT, Int.reduceLE, Int.reduceNe, Int.reduceAdd, Int.reduceSub, Int.reduceMul, Int.reduceNeg, Int.reduceGT, Int.reduceGE, ge_iff_le, gt_iff_lt, not_true_eq_false, not_false_eq_true, decide_not, decide_true, decide_false, Bool.not_true, Bool.not_false, Bool.and_true, Bool.true_and, Bool.and_false, Bool.false_and, Bool.or_true, Bool.true_or, Bool.or_false, Bool.false_or, and_true, true_and, and_self, Nat.zero_add, Nat.add_zero, Int.toNat_zero, Nat.zero_mul, wp_pure, beq_self_eq_true, bne_self_eq_false, reduceCtorEq, w64]
  have hsub : (bQ.l cells).sub k (len - k) = (cells.take len).drop k := by
   show (cells.drop k).take (len - k) = _
   rw [List.drop_take]
  have hone : ((cells.take len).drop k).all bN = true := by
   rw [List.all_eq_true] at h1 ⊢
   exact fun x hx => h1 x (List.mem_of_mem_drop hx)
  refine jH (FM (m := len - k) hHn ((hHo id (by omega)).trans hh) (by omega) (by omega) (by rw [fJ (by rw [hL1]; simp; omega), hL1]; omega) (by show k + (len - k) ≤ cells.length; omega) hsub hone) ?_
  simp (disch := omega) only [bY, aF, cS, cM, cR, lS, gD, jT, mD, oV, eX, oT, aI, kH, aC, bH, dN, u8, tyr, fgr, hkr, execOp, opd, bG, opt, ofValue, eM, ofList, dE, aD, put, nth, aB, aL, aE, builtin, dH, fC, eP, dJ, min2, max2, blr, eT, fH, und, sizeOf, zeroOf, lenOf, bor, aJ, bE, aK, cP, intOp, bU, strOp, dG, cW, slK, dU, unOp, bC, branch, idx, bI, cellsOf, oneOf, eK, cel, alloc, cN, newRow, nilCheck, extract, aZ, ended, aT, aU, cX, dW, aS, fieldAddr, field, part, index, bR, bJ, equal, cZ, cH, dO, dT, eC, cJ, List.getElem?_cons_succ, List.getElem?_cons_zero, List.append_eq, List.cons_append, List.nil_append, List.append_nil, List.length_cons, List.length_nil, Nat.reduceAdd, Nat.reduceSub, Nat.beq, Option.bind_some, nc0, nc1, Int.cast_ofNat_Int, cV, cU, cT, ↓reduceIte, Int.reduceEq, Int.reduceLT, Int.reduceLE, Int.reduceNe, Int.reduceAdd, Int.reduceSub, Int.reduceMul, Int.reduceNeg, Int.reduceGT, Int.reduceGE, ge_iff_le, gt_iff_lt, not_true_eq_false, not_false_eq_true, decide_not, decide_true, decide_false, Bool.not_true, Bool.not_false, Bool.and_true, Bool.true_and, Bool.and_false, Bool.false_and, Bool.or_true, Bool.true_or, Bool.or_false, Bool.false_or, and_true, true_and, and_self, Nat.zero_add, Nat.add_zero, Int.toNat_zero, Nat.zero_mul, wp_pure, beq_self_eq_true, bne_self_eq_false, reduceCtorEq, w64]
  refine ⟨(by (try simp (disch := omega) only [dF, List.all_cons, List.all_nil, wR, wQ, wP, Bool.not_false, Bool.true_or, Bool.and_true, Bool.true_and, wO, wN, wM, wU, wT, wL, wS]); repeat' (first | rfl | exact (Bool.or_eq_true _ _).mpr (.inr rfl) | refine (Bool.and_eq_true _ _).mpr ⟨?_, ?_⟩)), .inr fun j => ?_⟩
  have := N3 (xs := cells.take k ++ fQ [a9.eZ] (len + 1 - k)) (ys := cells.take len) (k := k) (len := len) (v := xc.at 0) (by rw [List.length_take]; omega) hkl (by omega) (fun j hj => by rw [List.getElem?_append_left (by rw [List.length_take]; omega), List.getElem?_take, if_pos hj, List.getElem?_take, if_pos (by omega)])
  rw [List.take_of_length_le (by rw [fJ (by rw [fJ (by rw [hL1]; simp; omega), hL1, List.length_drop, List.length_take]; omega), fJ (by rw [hL1]; simp; omega)]; omega)] at this
  rw [this]
  by_cases q : j = n
  ·subst q; rw [aW, if_pos rfl]
  ·rw [aP _ _ q, if_neg q]; exact hHo j q
 have e1 : (((C : Nat) : Int) < ((len : Nat) : Int) + 1) = False := by simp; omega
 simp (disch := omega) only [aC, bH, dN, u8, tyr, fgr, hkr, execOp, opd, bG, opt, ofValue, eM, ofList, dE, aD, put, nth, aB, aL, aE, builtin, dH, fC, eP, dJ, min2, max2, blr, eT, fH, und, sizeOf, zeroOf, lenOf, bor, aJ, bE, aK, cP, intOp, bU, strOp, dG, cW, slK, dU, unOp, bC, branch, idx, bI, cellsOf, oneOf, eK, cel, alloc, cN, newRow, nilCheck, extract, aZ, ended, aT, aU, cX, dW, aS, fieldAddr, field, part, index, bR, bJ, equal, cZ, cH, dO, dT, eC, cJ, List.getElem?_cons_succ, List.getElem?_cons_zero, List.append_eq, List.cons_append, List.nil_append, List.append_nil, List.length_cons, List.length_nil, Nat.reduceAdd, Nat.reduceSub, Nat.beq, Option.bind_some, nc0, nc1, Int.cast_ofNat_Int, cV, cU, cT, ↓reduceIte, Int.reduceEq, Int.reduceLT, Int.reduceLE, Int.reduceNe, Int.reduceAdd, Int.reduceSub, Int.reduceMul, Int.reduceNeg, Int.reduceGT, Int.reduceGE, ge_iff_le, gt_iff_lt, not_true_eq_false, not_false_eq_true, decide_not, decide_true, decide_false, Bool.not_true, Bool.not_false, Bool.and_true, Bool.true_and, Bool.and_false, Bool.false_and, Bool.or_true, Bool.true_or, Bool.or_false, Bool.false_or, and_true, true_and, and_self, Nat.zero_add, Nat.add_zero, Int.toNat_zero, Nat.zero_mul, wp_pure, beq_self_eq_true, bne_self_eq_false, reduceCtorEq, e1, w64]
 rw [aM (PM (k := len + 1) (by omega) (by omega))]
 simp (disch := omega) only [aC, bH, dN, u8, tyr, fgr, hkr, execOp, opd, bG, opt, ofValue, eM, ofList, dE, aD, put, nth, aB, aL, aE, builtin, dH, fC, eP, dJ, min2, max2, blr, eT, fH, und, sizeOf, zeroOf, lenOf, bor, aJ, bE, aK, cP, intOp, bU, strOp, dG, cW, slK, dU, unOp, bC, branch, idx, bI, cellsOf, oneOf, eK, cel, alloc, cN, newRow, nilCheck, extract, aZ, ended, aT, aU, cX, dW, aS, fieldAddr, field, part, index, bR, bJ, equal, cZ, cH, dO, dT, eC, cJ, List.getElem?_cons_succ, List.getElem?_cons_zero, List.append_eq, List.cons_append, List.nil_append, List.append_nil, List.length_cons, List.length_nil, Nat.reduceAdd, Nat.reduceSub, Nat.beq, Option.bind_some, nc0, nc1, Int.cast_ofNat_Int, cV, cU, cT, ↓reduceIte, Int.reduceEq, Int.reduceLT, Int.reduceLE, Int.reduceNe, Int.reduceAdd, Int.reduceSub, Int.reduceMul, Int.reduceNeg, Int.reduceGT, Int.reduceGE, ge_iff_le, gt_iff_lt, not_true_eq_false, not_false_eq_true, decide_not, decide_true, decide_false, Bool.not_true, Bool.not_false, Bool.and_true, Bool.true_and, Bool.and_false, Bool.false_and, Bool.or_true, Bool.true_or, Bool.or_false, Bool.false_or, and_true, true_and, and_self, Nat.zero_add, Nat.add_zero, Int.toNat_zero, Nat.zero_mul, wp_pure, beq_self_eq_true, bne_self_eq_false, reduceCtorEq, w64]
 rw [aM (AU (k := k + 1) (by omega) (by omega) (by omega))]
 simp (disch := omega) only [aC, bH, dN, u8, tyr, fgr, hkr, execOp, opd, bG, opt, ofValue, eM, ofList, dE, aD, put, nth, aB, aL, aE, builtin, dH, fC, eP, dJ, min2, max2, blr, eT, fH, und, sizeOf, zeroOf, lenOf, bor, aJ, bE, aK, cP, intOp, bU, strOp, dG, cW, slK, dU, unOp, bC, branch, idx, bI, cellsOf, oneOf, eK, cel, alloc, cN, newRow, nilCheck, extract, aZ, ended, aT, aU, cX, dW, aS, fieldAddr, field, part, index, bR, bJ, equal, cZ, cH, dO, dT, eC, cJ, List.getElem?_cons_succ, List.getElem?_cons_zero, List.append_eq, List.cons_append, List.nil_append, List.append_nil, List.length_cons, List.length_nil, Nat.reduceAdd, Nat.reduceSub, Nat.beq, Option.bind_some, nc0, nc1, Int.cast_ofNat_Int, cV, cU, cT, ↓reduceIte, Int.reduceEq, Int.reduceLT, Int.reduceLE, Int.reduceNe, Int.reduceAdd, Int.reduceSub, Int.reduceMul, Int.reduceNeg, Int.reduceGT, Int.reduceGE, ge_iff_le, gt_iff_lt, not_true_eq_false, not_false_eq_true, decide_not, decide_true, decide_false, Bool.not_true, Bool.not_false, Bool.and_true, Bool.true_and, Bool.and_false, Bool.false_and, Bool.or_true, Bool.true_or, Bool.or_false, Bool.false_or, and_true, true_and, and_self, Nat.zero_add, Nat.add_zero, Int.toNat_zero, Nat.zero_mul, wp_pure, beq_self_eq_true, bne_self_eq_false, reduceCtorEq, w64]
 refine eL (WQ hx hh hne (by omega) (by omega) (by show 0 < cells.length; omega)) ?_
 simp (disch := omega) only [aC, bH, dN, u8, tyr, fgr, hkr, execOp, opd, bG, opt, ofValue, eM, ofList, dE, aD, put, nth, aB, aL, aE, builtin, dH, fC, eP, dJ, min2, max2, blr, eT, fH, und, sizeOf, zeroOf, lenOf, bor, aJ, bE, aK, cP, intOp, bU, strOp, dG, cW, slK, dU, unOp, bC, branch, idx, bI, cellsOf, oneOf, eK, cel, alloc, cN, newRow, nilCheck, extract, aZ, ended, aT, aU, cX, dW, aS, fieldAddr, field, part, index, bR, bJ, equal, cZ, cH, dO, dT, eC, cJ, List.getElem?_cons_succ, List.getElem?_cons_zero, List.append_eq, List.cons_append, List.nil_append, List.append_nil, List.length_cons, List.length_nil, Nat.reduceAdd, Nat.reduceSub, Nat.beq, Option.bind_some, nc0, nc1, Int.cast_ofNat_Int, cV, cU, cT, ↓reduceIte, Int.reduceEq, Int.reduceLT, Int.reduceLE, Int.reduceNe, Int.reduceAdd, Int.reduceSub, Int.reduceMul, Int.reduceNeg, Int.reduceGT, Int.reduceGE, ge_iff_le, gt_iff_lt, not_true_eq_false, not_false_eq_true, decide_not, decide_true, decide_false, Bool.not_true, Bool.not_false, Bool.and_true, Bool.true_and, Bool.and_false, Bool.false_and, Bool.or_true, Bool.true_or, Bool.or_false, Bool.false_or, and_true, true_and, and_self, Nat.zero_add, Nat.add_zero, Int.toNat_zero, Nat.zero_mul, wp_pure, beq_self_eq_true, bne_self_eq_false, reduceCtorEq, w64]
 refine cG ⟨rfl, ?_⟩
 simp (disch := omega) only [bY, aF, cS, cM, cR, lS, gD, jT, mD, oV, eX, oT, aI, kH, aC, bH, dN, u8, tyr, fgr, hkr, execOp, opd, bG, opt, ofValue, eM, ofList, dE, aD, put, nth, aB, aL, aE, builtin, dH, fC, eP, dJ, min2, max2, blr, eT, fH, und, sizeOf, zeroOf, lenOf, bor, aJ, bE, aK, cP, intOp, bU, strOp, dG, cW, slK, dU, unOp, bC, branch, idx, bI, cellsOf, oneOf, eK, cel, alloc, cN, newRow, nilCheck, extract, aZ, ended, aT, aU, cX, dW, aS, fieldAddr, field, part, index, bR, bJ, equal, cZ, cH, dO, dT, eC, cJ, List.getElem?_cons_succ, List.getElem?_cons_zero, List.append_eq, List.cons_append, List.nil_append, List.append_nil, List.length_cons, List.length_nil, Nat.reduceAdd, Nat.reduceSub, Nat.beq, Option.bind_some, nc0, nc1, Int.cast_ofNat_Int, cV, cU, cT, ↓reduceIte, Int.reduceEq, Int.reduceLT, Int.reduceLE, Int.reduceNe, Int.reduceAdd, Int.reduceSub, Int.reduceMul, Int.reduceNeg, Int.reduceGT, Int.reduceGE, ge_iff_le, gt_iff_lt, not_true_eq_false, not_false_eq_true, decide_not, decide_true, decide_false, Bool.not_true, Bool.not_false, Bool.and_true, Bool.true_and, Bool.and_false, Bool.false_and, Bool.or_true, Bool.true_or, Bool.or_false, Bool.false_or, and_true, true_and, and_self, Nat.zero_add, Nat.add_zero, Int.toNat_zero, Nat.zero_mul, wp_pure, beq_self_eq_true, bne_self_eq_false, reduceCtorEq, w64]
 rw [bP (AU (k := k + 1) (by omega) (by omega) (by omega))]
 simp (disch := omega) only [bY, aF, cS, cM, cR, lS, gD, jT, mD, oV, eX, oT, aI, kH, aC, bH, dN, u8, tyr, fgr, hkr, execOp, opd, bG, opt, ofValue, eM, ofList, dE, aD, put, nth, aB, aL, aE, builtin, dH, fC, eP, dJ, min2, max2, blr, eT, fH, und, sizeOf, zeroOf, lenOf, bor, aJ, bE, aK, cP, intOp, bU, strOp, dG, cW, slK, dU, unOp, bC, branch, idx, bI, cellsOf, oneOf, eK, cel, alloc, cN, newRow, nilCheck, extract, aZ, ended, aT, aU, cX, dW, aS, fieldAddr, field, part, index, bR, bJ, equal, cZ, cH, dO, dT, eC, cJ, List.getElem?_cons_succ, List.getElem?_cons_zero, List.append_eq, List.cons_append, List.nil_append, List.append_nil, List.length_cons, List.length_nil, Nat.reduceAdd, Nat.reduceSub, Nat.beq, Option.bind_some, nc0, nc1, Int.cast_ofNat_Int, cV, cU, cT, ↓reduceIte, Int.reduceEq, Int.reduceLT, Int.reduceLE, Int.reduceNe, Int.reduceAdd, Int.reduceSub, Int.reduceMul, Int.reduceNeg, Int.reduceGT, Int.reduceGE, ge_iff_le, gt_iff_lt, not_true_eq_false, not_false_eq_true, decide_not, decide_true, decide_false, Bool.not_true, Bool.not_false, Bool.and_true, Bool.true_and, Bool.and_false, Bool.false_and, Bool.or_true, Bool.true_or, Bool.or_false, Bool.false_or, and_true, true_and, and_self, Nat.zero_add, Nat.add_zero, Int.toNat_zero, Nat.zero_mul, wp_pure, beq_self_eq_true, bne_self_eq_false, reduceCtorEq, w64]
 rw [bP (AU (k := k) (by omega) (by omega) (by omega))]
 simp (disch := omega) only [bY, aF, cS, cM, cR, lS, gD, jT, mD, oV, eX, oT, aI, kH, aC, bH, dN, u8, tyr, fgr, hkr, execOp, opd, bG, opt, ofValue, eM, ofList, dE, aD, put, nth, aB, aL, aE, builtin, dH, fC, eP, dJ, min2, max2, blr, eT, fH, und, sizeOf, zeroOf, lenOf, bor, aJ, bE, aK, cP, intOp, bU, strOp, dG, cW, slK, dU, unOp, bC, branch, idx, bI, cellsOf, oneOf, eK, cel, alloc, cN, newRow, nilCheck, extract, aZ, ended, aT, aU, cX, dW, aS, fieldAddr, field, part, index, bR, bJ, equal, cZ, cH, dO, dT, eC, cJ, List.getElem?_cons_succ, List.getElem?_cons_zero, List.append_eq, List.cons_append, List.nil_append, List.append_nil, List.length_cons, List.length_nil, Nat.reduceAdd, Nat.reduceSub, Nat.beq, Option.bind_some, nc0, nc1, Int.cast_ofNat_Int, cV, cU, cT, ↓reduceIte, Int.reduceEq, Int.reduceLT, Int.reduceLE, Int.reduceNe, Int.reduceAdd, Int.reduceSub, Int.reduceMul, Int.reduceNeg, Int.reduceGT, Int.reduceGE, ge_iff_le, gt_iff_lt, not_true_eq_false, not_false_eq_true, decide_not, decide_true, decide_false, Bool.not_true, Bool.not_false, Bool.and_true, Bool.true_and, Bool.and_false, Bool.false_and, Bool.or_true, Bool.true_or, Bool.or_false, Bool.false_or, and_true, true_and, and_self, Nat.zero_add, Nat.add_zero, Int.toNat_zero, Nat.zero_mul, wp_pure, beq_self_eq_true, bne_self_eq_false, reduceCtorEq, w64]
 have hsub : (bQ.l cells).sub k (len - k) = (cells.take len).drop k := by
  show (cells.drop k).take (len - k) = _
  rw [List.drop_take]
 have hone : ((cells.take len).drop k).all bN = true := by
  rw [List.all_eq_true] at h1 ⊢
  exact fun x hx => h1 x (List.mem_of_mem_drop hx)
 have hl2 : ((cells.take len).drop k).length = len - k := by rw [List.length_drop, List.length_take]; omega
 refine jH (FM (m := len - k) hh hh (by omega) (by omega) (by omega) (by show k + (len - k) ≤ cells.length; omega) hsub hone) ?_
 simp (disch := omega) only [bY, aF, cS, cM, cR, lS, gD, jT, mD, oV, eX, oT, aI, kH, aC, bH, dN, u8, tyr, fgr, hkr, execOp, opd, bG, opt, ofValue, eM, ofList, dE, aD, put, nth, aB, aL, aE, builtin, dH, fC, eP, dJ, min2, max2, blr, eT, fH, und, sizeOf, zeroOf, lenOf, bor, aJ, bE, aK, cP, intOp, bU, strOp, dG, cW, slK, dU, unOp, bC, branch, idx, bI, cellsOf, oneOf, eK, cel, alloc, cN, newRow, nilCheck, extract, aZ, ended, aT, aU, cX, dW, aS, fieldAddr, field, part, index, bR, bJ, equal, cZ, cH, dO, dT, eC, cJ, List.getElem?_cons_succ, List.getElem?_cons_zero, List.append_eq, List.cons_append, List.nil_append, List.append_nil, List.length_cons, List.length_nil, Nat.reduceAdd, Nat.reduceSub, Nat.beq, Option.bind_some, nc0, nc1, Int.cast_ofNat_Int, cV, cU, cT, ↓reduceIte, Int.reduceEq, Int.reduceLT, Int.reduceLE, Int.reduceNe, Int.reduceAdd, Int.reduceSub, Int.reduceMul, Int.reduceNeg, Int.reduceGT, Int.reduceGE, ge_iff_le, gt_iff_lt, not_true_eq_false, not_false_eq_true, decide_not, decide_true, decide_false, Bool.not_true, Bool.not_false, Bool.and_true, Bool.true_and, Bool.and_false, Bool.false_and, Bool.or_true, Bool.true_or, Bool.or_false, Bool.false_or, and_true, true_and, and_self, Nat.zero_add, Nat.add_zero, Int.toNat_zero, Nat.zero_mul, wp_pure, beq_self_eq_true, bne_self_eq_false, reduceCtorEq, w64]
 refine ⟨(by (try simp (disch := omega) only [dF, List.all_cons, List.all_nil, wR, wQ, wP, Bool.not_false, Bool.true_or, Bool.and_true, Bool.true_and, wO, wN, wM, wU, wT, wL, wS]); repeat' (first | rfl | exact (Bool.or_eq_true _ _).mpr (.inr rfl) | refine (Bool.and_eq_true _ _).mpr ⟨?_, ?_⟩)), ?_⟩
 rw [aM (AU (k := k) (by omega) (by omega) (by omega))]
 simp (disch := omega) only [aC, bH, dN, u8, tyr, fgr, hkr, execOp, opd, bG, opt, ofValue, eM, ofList, dE, aD, put, nth, aB, aL, aE, builtin, dH, fC, eP, dJ, min2, max2, blr, eT, fH, und, sizeOf, zeroOf, lenOf, bor, aJ, bE, aK, cP, intOp, bU, strOp, dG, cW, slK, dU, unOp, bC, branch, idx, bI, cellsOf, oneOf, eK, cel, alloc, cN, newRow, nilCheck, extract, aZ, ended, aT, aU, cX, dW, aS, fieldAddr, field, part, index, bR, bJ, equal, cZ, cH, dO, dT, eC, cJ, List.getElem?_cons_succ, List.getElem?_cons_zero, List.append_eq, List.cons_append, List.nil_append, List.append_nil, List.length_cons, List.length_nil, Nat.reduceAdd, Nat.reduceSub, Nat.beq, Option.bind_some, nc0, nc1, Int.cast_ofNat_Int, cV, cU, cT, ↓reduceIte, Int.reduceEq, Int.reduceLT, Int.reduceLE, Int.reduceNe, Int.reduceAdd, Int.reduceSub, Int.reduceMul, Int.reduceNeg, Int.reduceGT, Int.reduceGE, ge_iff_le, gt_iff_lt, not_true_eq_false, not_false_eq_true, decide_not, decide_true, decide_false, Bool.not_true, Bool.not_false, Bool.and_true, Bool.true_and, Bool.and_false, Bool.false_and, Bool.or_true, Bool.true_or, Bool.or_false, Bool.false_or, and_true, true_and, and_self, Nat.zero_add, Nat.add_zero, Int.toNat_zero, Nat.zero_mul, wp_pure, beq_self_eq_true, bne_self_eq_false, reduceCtorEq, w64]
 have hxs : xc.sub 0 1 = [xc.at 0] := bQ.sub_one hxc
 have hsp : (cB cells (k + 1) ((cells.take len).drop k)).length = C := by rw [fJ (by rw [hl2]; omega)]; exact hC
 rw [dR (FM (m := 1) (aW _ _ _) ((aP _ _ hne).trans hx) (by omega) (by omega) (by rw [hsp]; omega) hxc hxs (by simp [hv]))]
 simp (disch := omega) only [aC, bH, dN, u8, tyr, fgr, hkr, execOp, opd, bG, opt, ofValue, eM, ofList, dE, aD, put, nth, aB, aL, aE, builtin, dH, fC, eP, dJ, min2, max2, blr, eT, fH, und, sizeOf, zeroOf, lenOf, bor, aJ, bE, aK, cP, intOp, bU, strOp, dG, cW, slK, dU, unOp, bC, branch, idx, bI, cellsOf, oneOf, eK, cel, alloc, cN, newRow, nilCheck, extract, aZ, ended, aT, aU, cX, dW, aS, fieldAddr, field, part, index, bR, bJ, equal, cZ, cH, dO, dT, eC, cJ, List.getElem?_cons_succ, List.getElem?_cons_zero, List.append_eq, List.cons_append, List.nil_append, List.append_nil, List.length_cons, List.length_nil, Nat.reduceAdd, Nat.reduceSub, Nat.beq, Option.bind_some, nc0, nc1, Int.cast_ofNat_Int, cV, cU, cT, ↓reduceIte, Int.reduceEq, Int.reduceLT, Int.reduceLE, Int.reduceNe, Int.reduceAdd, Int.reduceSub, Int.reduceMul, Int.reduceNeg, Int.reduceGT, Int.reduceGE, ge_iff_le, gt_iff_lt, not_true_eq_false, not_false_eq_true, decide_not, decide_true, decide_false, Bool.not_true, Bool.not_false, Bool.and_true, Bool.true_and, Bool.and_false, Bool.false_and, Bool.or_true, Bool.true_or, Bool.or_false, Bool.false_or, and_true, true_and, and_self, Nat.zero_add, Nat.add_zero, Int.toNat_zero, Nat.zero_mul, wp_pure, beq_self_eq_true, bne_self_eq_false, reduceCtorEq, w64]
 refine .inl ⟨by omega, _, ?_, OL hkl (by omega), fun j => ?_⟩
 ·rw [fJ (by rw [hsp]; simp; omega)]; exact hsp
 ·by_cases q : j = id
  ·subst q; rw [aW, if_pos rfl]
  ·rw [aP _ _ q, aP _ _ q, if_neg q]
theorem zF {h : Hp} {n xid : Nat} {s : a9} {xc : bQ} {e' : TypeId} (hs : s = .aV ∨ s = .emp ∨ ∃ id off c, s = .sl id off 0 (some 0) 1 ∧ h id = some (.row c 128) ∧ off ≤ c.size) (hx : h xid = some (.row xc e')) (hxc : 0 < xc.size) (hv : bN (xc.at 0) = true) :
  Wp (fR env [95, 95] s (.sl xid 0 1 (some 1) 1)) h n fun v' h' n' => v' = .sl n 0 1 none 1 ∧ n' = n + 1 ∧ ∀ j, h' j = if j = n then some (.row (.l [xc.at 0]) 128) else h j := by
 have hx1 : Rds h 1 (.sl xid 0 1 (some 1) 1) 1 [xc.at 0] := .sl xid 0 1 (some 1) xc e' _ hx rfl (by simp; omega) (fun j hj => by
  have : j = 0 := by simpa using hj
  subst this; rfl)
 have key : ∀ j, upd h n (some (Blk.row (bQ.l [xc.at 0]) 128)) j = if j = n then some (.row (.l [xc.at 0]) 128) else h j := fun j => rfl
 have r1 : ((2 * 1 * 8).ble room && (1).ble room) = true := rfl
 rcases hs with rfl | rfl | ⟨id, off, c, rfl, hc1, hc2⟩
 ·simp only [fR, u95, bind_pure, fH, append, iV, lenOf, bind_assoc, gM, show (Nat.beq 1 0) = false from rfl]
  refine eQ hx1.cells ?_
  simp only [grown, eY, iH, wp_pure, r1, true_and]
  exact key
 ·simp only [fR, u95, bind_pure, fH, append, iV, lenOf, bind_assoc, gM, show (Nat.beq 1 0) = false from rfl]
  refine eQ hx1.cells ?_
  simp only [grown, eY, iH, wp_pure, r1, true_and]
  exact key
 ·simp only [fR, u95, bind_pure, fH, append, iV, lenOf, bind_assoc, gM, show (Nat.beq 1 0) = false from rfl]
  refine eQ hx1.cells ?_
  have hs0 : Rds h 1 (.sl id off 0 (some 0) 1) 0 [] := .sl id off 0 (some 0) c 128 _ hc1 rfl (by simpa using hc2) (fun j hj => by simp at hj)
  simp only [bR, show (Nat.beq 1 1) = true from rfl, fI, hc1, Option.some.injEq, exists_eq_left', cX, gM, show (Nat.ble (0 + 1) 0) = false from rfl]
  refine eQ hs0.cells ?_
  simp only [grown, Nat.zero_add, List.nil_append, eY, iH, wp_pure, r1, true_and]
  exact key
theorem ab9 (h : Hp) (n : Nat) (s : a9) (xid : Nat) (xc : bQ) (hs : s = .aV ∨ s = .emp ∨ ∃ id off c, s = .sl id off 0 (some 0) 1 ∧ h id = some (.row c 128) ∧ off ≤ c.size) (hx : h xid = some (.row xc 128)) (hxc : 0 < xc.size) (hv : bN (xc.at 0) = true) (hxn : xid < n) :
  Wp (bD env (evalW env) 104 [s, .int .i64 0, .sl xid 0 1 (some 1) 1]) h n fun v' h' n' => v' = .sl n 0 1 none 1 ∧ n' = n + 1 ∧ ∀ j, h' j = if j = n then some (.row (.l [xc.at 0]) 128) else h j := by
 refine bL PY PX ?_
 have hxs : xc.sub 0 1 = [xc.at 0] := bQ.sub_one hxc
 have b1 : Nat.ble (0 + 1) xc.size = true := Nat.ble_eq_true_of_le hxc
 have b2 : Nat.ble 1 xc.size = true := Nat.ble_eq_true_of_le hxc
 rcases hs with rfl | rfl | ⟨id, off, c, rfl, hc1, hc2⟩
 ·simp only [yM, Try.f104, Option.getD_some, List.replicate, aC, bH, dN, u8, tyr, fgr, hkr, execOp, opd, bG, opt, ofValue, eM, ofList, dE, aD, put, nth, aB, aL, aE, builtin, dH, fC, eP, dJ, min2, max2, blr, eT, fH, und, sizeOf, zeroOf, lenOf, bor, aJ, bE, aK, cP, intOp, bU, strOp, dG, cW, slK, dU, unOp, bC, branch, idx, bI, cellsOf, oneOf, eK, cel, alloc, cN, newRow, nilCheck, extract, aZ, ended, aT, aU, cX, dW, aS, fieldAddr, field, part, index, bR, bJ, equal, cZ, cH, dO, dT, eC, cJ, List.getElem?_cons_succ, List.getElem?_cons_zero, List.append_eq, List.cons_append, List.nil_append, List.append_nil, List.length_cons, List.length_nil, Nat.reduceAdd, Nat.reduceSub, Nat.beq, Option.bind_some, nc0, nc1, Int.cast_ofNat_Int, cV, cU, cT, ↓reduceIte, Int.reduceEq, Int.reduceLT, Int.reduceLE, Int.reduceNe, Int.reduceAdd, Int.reduceSub, Int.reduceMul, Int.reduceNeg, Int.reduceGT, Int.reduceGE, ge_iff_le, gt_iff_lt, not_true_eq_false, not_false_eq_true, decide_not, decide_true, decide_false, Bool.not_true, Bool.not_false, Bool.and_true, Bool.true_and, Bool.and_false, Bool.false_and, Bool.or_true, Bool.true_or, Bool.or_false, Bool.false_or, and_true, true_and, and_self, Nat.zero_add, Nat.add_zero, Int.toNat_zero, Nat.zero_mul, wp_pure, beq_self_eq_true, bne_self_eq_false, reduceCtorEq, slice, bound, oM]
  refine wp_mono (zF (.inl rfl) hx hxc hv) fun v' h' n' ⟨e1, e2, e3⟩ => ?_
  subst e1
  simp only [aC, bH, dN, u8, tyr, fgr, hkr, execOp, opd, bG, opt, ofValue, eM, ofList, dE, aD, put, nth, aB, aL, aE, builtin, dH, fC, eP, dJ, min2, max2, blr, eT, fH, und, sizeOf, zeroOf, lenOf, bor, aJ, bE, aK, cP, intOp, bU, strOp, dG, cW, slK, dU, unOp, bC, branch, idx, bI, cellsOf, oneOf, eK, cel, alloc, cN, newRow, nilCheck, extract, aZ, ended, aT, aU, cX, dW, aS, fieldAddr, field, part, index, bR, bJ, equal, cZ, cH, dO, dT, eC, cJ, List.getElem?_cons_succ, List.getElem?_cons_zero, List.append_eq, List.cons_append, List.nil_append, List.append_nil, List.length_cons, List.length_nil, Nat.reduceAdd, Nat.reduceSub, Nat.beq, Option.bind_some, nc0, nc1, Int.cast_ofNat_Int, cV, cU, cT, ↓reduceIte, Int.reduceEq, Int.reduceLT, Int.reduceLE, Int.reduceNe, Int.reduceAdd, Int.reduceSub, Int.reduceMul, Int.reduceNeg, Int.reduceGT, Int.reduceGE, ge_iff_le, gt_iff_lt, not_true_eq_false, not_false_eq_true, decide_not, decide_true, decide_false, Bool.not_true, Bool.not_false, Bool.and_true, Bool.true_and, Bool.and_false, Bool.false_and, Bool.or_true, Bool.true_or, Bool.or_false, Bool.false_or, and_true, true_and, and_self, Nat.zero_add, Nat.add_zero, Int.toNat_zero, Nat.zero_mul, wp_pure, beq_self_eq_true, bne_self_eq_false, reduceCtorEq, e2]
  exact e3
 ·simp only [yM, Try.f104, Option.getD_some, List.replicate, aC, bH, dN, u8, tyr, fgr, hkr, execOp, opd, bG, opt, ofValue, eM, ofList, dE, aD, put, nth, aB, aL, aE, builtin, dH, fC, eP, dJ, min2, max2, blr, eT, fH, und, sizeOf, zeroOf, lenOf, bor, aJ, bE, aK, cP, intOp, bU, strOp, dG, cW, slK, dU, unOp, bC, branch, idx, bI, cellsOf, oneOf, eK, cel, alloc, cN, newRow, nilCheck, extract, aZ, ended, aT, aU, cX, dW, aS, fieldAddr, field, part, index, bR, bJ, equal, cZ, cH, dO, dT, eC, cJ, List.getElem?_cons_succ, List.getElem?_cons_zero, List.append_eq, List.cons_append, List.nil_append, List.append_nil, List.length_cons, List.length_nil, Nat.reduceAdd, Nat.reduceSub, Nat.beq, Option.bind_some, nc0, nc1, Int.cast_ofNat_Int, cV, cU, cT, ↓reduceIte, Int.reduceEq, Int.reduceLT, Int.reduceLE, Int.reduceNe, Int.reduceAdd, Int.reduceSub, Int.reduceMul, Int.reduceNeg, Int.reduceGT, Int.reduceGE, ge_iff_le, gt_iff_lt, not_true_eq_false, not_false_eq_true, decide_not, decide_true, decide_false, Bool.not_true, Bool.not_false, Bool.and_true, Bool.true_and, Bool.and_false, Bool.false_and, Bool.or_true, Bool.true_or, Bool.or_false, Bool.false_or, and_true, true_and, and_self, Nat.zero_add, Nat.add_zero, Int.toNat_zero, Nat.zero_mul, wp_pure, beq_self_eq_true, bne_self_eq_false, reduceCtorEq, slice, bound, oM]
  refine wp_mono (zF (.inr (.inl rfl)) hx hxc hv) fun v' h' n' ⟨e1, e2, e3⟩ => ?_
  subst e1
  simp only [aC, bH, dN, u8, tyr, fgr, hkr, execOp, opd, bG, opt, ofValue, eM, ofList, dE, aD, put, nth, aB, aL, aE, builtin, dH, fC, eP, dJ, min2, max2, blr, eT, fH, und, sizeOf, zeroOf, lenOf, bor, aJ, bE, aK, cP, intOp, bU, strOp, dG, cW, slK, dU, unOp, bC, branch, idx, bI, cellsOf, oneOf, eK, cel, alloc, cN, newRow, nilCheck, extract, aZ, ended, aT, aU, cX, dW, aS, fieldAddr, field, part, index, bR, bJ, equal, cZ, cH, dO, dT, eC, cJ, List.getElem?_cons_succ, List.getElem?_cons_zero, List.append_eq, List.cons_append, List.nil_append, List.append_nil, List.length_cons, List.length_nil, Nat.reduceAdd, Nat.reduceSub, Nat.beq, Option.bind_some, nc0, nc1, Int.cast_ofNat_Int, cV, cU, cT, ↓reduceIte, Int.reduceEq, Int.reduceLT, Int.reduceLE, Int.reduceNe, Int.reduceAdd, Int.reduceSub, Int.reduceMul, Int.reduceNeg, Int.reduceGT, Int.reduceGE, ge_iff_le, gt_iff_lt, not_true_eq_false, not_false_eq_true, decide_not, decide_true, decide_false, Bool.not_true, Bool.not_false, Bool.and_true, Bool.true_and, Bool.and_false, Bool.false_and, Bool.or_true, Bool.true_or, Bool.or_false, Bool.false_or, and_true, true_and, and_self, Nat.zero_add, Nat.add_zero, Int.toNat_zero, Nat.zero_mul, wp_pure, beq_self_eq_true, bne_self_eq_false, reduceCtorEq, e2]
  exact e3
 ·simp only [yM, Try.f104, Option.getD_some, List.replicate, aC, bH, dN, u8, tyr, fgr, hkr, execOp, opd, bG, opt, ofValue, eM, ofList, dE, aD, put, nth, aB, aL, aE, builtin, dH, fC, eP, dJ, min2, max2, blr, eT, fH, und, sizeOf, zeroOf, lenOf, bor, aJ, bE, aK, cP, intOp, bU, strOp, dG, cW, slK, dU, unOp, bC, branch, idx, bI, cellsOf, oneOf, eK, cel, alloc, cN, newRow, nilCheck, extract, aZ, ended, aT, aU, cX, dW, aS, fieldAddr, field, part, index, bR, bJ, equal, cZ, cH, dO, dT, eC, cJ, List.getElem?_cons_succ, List.getElem?_cons_zero, List.append_eq, List.cons_append, List.nil_append, List.append_nil, List.length_cons, List.length_nil, Nat.reduceAdd, Nat.reduceSub, Nat.beq, Option.bind_some, nc0, nc1, Int.cast_ofNat_Int, cV, cU, cT, ↓reduceIte, Int.reduceEq, Int.reduceLT, Int.reduceLE, Int.reduceNe, Int.reduceAdd, Int.reduceSub, Int.reduceMul, Int.reduceNeg, Int.reduceGT, Int.reduceGE, ge_iff_le, gt_iff_lt, not_true_eq_false, not_false_eq_true, decide_not, decide_true, decide_false, Bool.not_true, Bool.not_false, Bool.and_true, Bool.true_and, Bool.and_false, Bool.false_and, Bool.or_true, Bool.true_or, Bool.or_false, Bool.false_or, and_true, true_and, and_self, Nat.zero_add, Nat.add_zero, Int.toNat_zero, Nat.zero_mul, wp_pure, beq_self_eq_true, bne_self_eq_false, reduceCtorEq, slice, bound, oM]
  refine wp_mono (zF (.inr (.inr ⟨id, off, c, rfl, hc1, hc2⟩)) hx hxc hv) fun v' h' n' ⟨e1, e2, e3⟩ => ?_
  subst e1
  simp only [aC, bH, dN, u8, tyr, fgr, hkr, execOp, opd, bG, opt, ofValue, eM, ofList, dE, aD, put, nth, aB, aL, aE, builtin, dH, fC, eP, dJ, min2, max2, blr, eT, fH, und, sizeOf, zeroOf, lenOf, bor, aJ, bE, aK, cP, intOp, bU, strOp, dG, cW, slK, dU, unOp, bC, branch, idx, bI, cellsOf, oneOf, eK, cel, alloc, cN, newRow, nilCheck, extract, aZ, ended, aT, aU, cX, dW, aS, fieldAddr, field, part, index, bR, bJ, equal, cZ, cH, dO, dT, eC, cJ, List.getElem?_cons_succ, List.getElem?_cons_zero, List.append_eq, List.cons_append, List.nil_append, List.append_nil, List.length_cons, List.length_nil, Nat.reduceAdd, Nat.reduceSub, Nat.beq, Option.bind_some, nc0, nc1, Int.cast_ofNat_Int, cV, cU, cT, ↓reduceIte, Int.reduceEq, Int.reduceLT, Int.reduceLE, Int.reduceNe, Int.reduceAdd, Int.reduceSub, Int.reduceMul, Int.reduceNeg, Int.reduceGT, Int.reduceGE, ge_iff_le, gt_iff_lt, not_true_eq_false, not_false_eq_true, decide_not, decide_true, decide_false, Bool.not_true, Bool.not_false, Bool.and_true, Bool.true_and, Bool.and_false, Bool.false_and, Bool.or_true, Bool.true_or, Bool.or_false, Bool.false_or, and_true, true_and, and_self, Nat.zero_add, Nat.add_zero, Int.toNat_zero, Nat.zero_mul, wp_pure, beq_self_eq_true, bne_self_eq_false, reduceCtorEq, e2]
  exact e3
theorem N1 : FX env 104 128 nX.i := ⟨ab9, fun h n id len C k xid cells xc hh hC hl h0 hr hr2 hk h1 hx hxc hv hxn hin hne => f104 h n id len C k xid cells xc hh hC hl h0 hr hr2 hk h1 hx hxc hv hxn hin hne⟩
theorem RI : kS Try.prog 108 dK := by
 refine AV (E := env) fun args s v s' h ho => ?_
 have h0 := h
 unfold dK at h0
 split at h0
 ·rename_i x y
  obtain ⟨e, hw⟩ := CA h ho
  refine ⟨e, ?_⟩
  refine bL aa9 Z7 ?_
  simp only [KW, Try.f108, Option.getD_some, List.replicate, aC, bH, dN, u8, tyr, fgr, hkr, execOp, opd, bG, opt, ofValue, eM, ofList, dE, aD, put, nth, aB, aL, aE, builtin, dH, fC, eP, dJ, min2, max2, blr, eT, fH, und, sizeOf, zeroOf, lenOf, bor, aJ, bE, aK, cP, intOp, bU, strOp, dG, cW, slK, dU, unOp, bC, branch, idx, bI, cellsOf, oneOf, eK, cel, alloc, cN, newRow, nilCheck, extract, aZ, ended, aT, aU, cX, dW, aS, fieldAddr, field, part, index, bR, bJ, equal, cZ, cH, dO, dT, eC, cJ, List.getElem?_cons_succ, List.getElem?_cons_zero, List.append_eq, List.cons_append, List.nil_append, List.append_nil, List.length_cons, List.length_nil, Nat.reduceAdd, Nat.reduceSub, Nat.beq, Option.bind_some, nc0, nc1, Int.cast_ofNat_Int, cV, cU, cT, ↓reduceIte, Int.reduceEq, Int.reduceLT, Int.reduceLE, Int.reduceNe, Int.reduceAdd, Int.reduceSub, Int.reduceMul, Int.reduceNeg, Int.reduceGT, Int.reduceGE, ge_iff_le, gt_iff_lt, not_true_eq_false, not_false_eq_true, decide_not, decide_true, decide_false, Bool.not_true, Bool.not_false, Bool.and_true, Bool.true_and, Bool.and_false, Bool.false_and, Bool.or_true, Bool.true_or, Bool.or_false, Bool.false_or, and_true, true_and, and_self, Nat.zero_add, Nat.add_zero, Int.toNat_zero, Nat.zero_mul, wp_pure, beq_self_eq_true, bne_self_eq_false, reduceCtorEq]
  refine wp_mono hw fun v' h' n' ⟨e1, e2, e3⟩ => ?_
  subst e1
  simp only [aC, bH, dN, u8, tyr, fgr, hkr, execOp, opd, bG, opt, ofValue, eM, ofList, dE, aD, put, nth, aB, aL, aE, builtin, dH, fC, eP, dJ, min2, max2, blr, eT, fH, und, sizeOf, zeroOf, lenOf, bor, aJ, bE, aK, cP, intOp, bU, strOp, dG, cW, slK, dU, unOp, bC, branch, idx, bI, cellsOf, oneOf, eK, cel, alloc, cN, newRow, nilCheck, extract, aZ, ended, aT, aU, cX, dW, aS, fieldAddr, field, part, index, bR, bJ, equal, cZ, cH, dO, dT, eC, cJ, List.getElem?_cons_succ, List.getElem?_cons_zero, List.append_eq, List.cons_append, List.nil_append, List.append_nil, List.length_cons, List.length_nil, Nat.reduceAdd, Nat.reduceSub, Nat.beq, Option.bind_some, nc0, nc1, Int.cast_ofNat_Int, cV, cU, cT, ↓reduceIte, Int.reduceEq, Int.reduceLT, Int.reduceLE, Int.reduceNe, Int.reduceAdd, Int.reduceSub, Int.reduceMul, Int.reduceNeg, Int.reduceGT, Int.reduceGE, ge_iff_le, gt_iff_lt, not_true_eq_false, not_false_eq_true, decide_not, decide_true, decide_false, Bool.not_true, Bool.not_false, Bool.and_true, Bool.true_and, Bool.and_false, Bool.false_and, Bool.or_true, Bool.true_or, Bool.or_false, Bool.false_or, and_true, true_and, and_self, Nat.zero_add, Nat.add_zero, Int.toNat_zero, Nat.zero_mul, wp_pure, beq_self_eq_true, bne_self_eq_false, reduceCtorEq]
  exact ⟨e2, e3⟩
 ·exact (aH h0).elim
def zB : List a9 → M a9
 | [a] => match a with
  | .ptr s off => match off.beq 0 with
   | true => (fT s).bind (cX fun c _ => match c with
     | .l cs => match cs with
      | [x, lv] => match x with
       | .ptr _ _ => match lv with
        | .aV => M.pure (.int .i64 (-1))
        | .sl _ _ len _ _ => match len.ble 1000000 with
         | true => M.pure (.int .i64 ((len : Nat) - 1))
         | false => fail "Tip"
        | _ => fail "Tip"
       | _ => fail "Tip"
      | _ => fail "Tip"
     | _ => fail "Tip")
   | false => fail "Tip"
  | _ => fail "Tip"
 | _ => fail "Tip"
theorem f66w (s x o : Nat) (lv : a9) (h : Hp) (n : Nat) (hr : Row h s [.ptr x o, lv]) : Wp (bD env (evalW env) 66 [.ptr s 0]) h n fun v' h' n' => v' = .bool false ∧ h' = h ∧ n' = n := by
 refine bL VS VQ ?_
 simp only [DQ, Try.f66, Option.getD_some, List.replicate, aC, bH, dN, u8, tyr, fgr, hkr, execOp, opd, bG, opt, ofValue, eM, ofList, dE, aD, put, nth, aB, aL, aE, builtin, dH, fC, eP, dJ, min2, max2, blr, eT, fH, und, sizeOf, zeroOf, lenOf, bor, aJ, bE, aK, cP, intOp, bU, strOp, dG, cW, slK, dU, unOp, bC, branch, idx, bI, cellsOf, oneOf, eK, cel, alloc, cN, newRow, nilCheck, extract, aZ, ended, aT, aU, cX, dW, aS, fieldAddr, field, part, index, bR, bJ, equal, cZ, cH, dO, dT, eC, cJ, List.getElem?_cons_succ, List.getElem?_cons_zero, List.append_eq, List.cons_append, List.nil_append, List.append_nil, List.length_cons, List.length_nil, Nat.reduceAdd, Nat.reduceSub, Nat.beq, Option.bind_some, nc0, nc1, Int.cast_ofNat_Int, cV, cU, cT, ↓reduceIte, Int.reduceEq, Int.reduceLT, Int.reduceLE, Int.reduceNe, Int.reduceAdd, Int.reduceSub, Int.reduceMul, Int.reduceNeg, Int.reduceGT, Int.reduceGE, ge_iff_le, gt_iff_lt, not_true_eq_false, not_false_eq_true, decide_not, decide_true, decide_false, Bool.not_true, Bool.not_false, Bool.and_true, Bool.true_and, Bool.and_false, Bool.false_and, Bool.or_true, Bool.true_or, Bool.or_false, Bool.false_or, and_true, true_and, and_self, Nat.zero_add, Nat.add_zero, Int.toNat_zero, Nat.zero_mul, wp_pure, beq_self_eq_true, bne_self_eq_false, reduceCtorEq]
 rw [aM (hr.one (off := 0) rfl qA rfl)]
 simp only [aC, bH, dN, u8, tyr, fgr, hkr, execOp, opd, bG, opt, ofValue, eM, ofList, dE, aD, put, nth, aB, aL, aE, builtin, dH, fC, eP, dJ, min2, max2, blr, eT, fH, und, sizeOf, zeroOf, lenOf, bor, aJ, bE, aK, cP, intOp, bU, strOp, dG, cW, slK, dU, unOp, bC, branch, idx, bI, cellsOf, oneOf, eK, cel, alloc, cN, newRow, nilCheck, extract, aZ, ended, aT, aU, cX, dW, aS, fieldAddr, field, part, index, bR, bJ, equal, cZ, cH, dO, dT, eC, cJ, List.getElem?_cons_succ, List.getElem?_cons_zero, List.append_eq, List.cons_append, List.nil_append, List.append_nil, List.length_cons, List.length_nil, Nat.reduceAdd, Nat.reduceSub, Nat.beq, Option.bind_some, nc0, nc1, Int.cast_ofNat_Int, cV, cU, cT, ↓reduceIte, Int.reduceEq, Int.reduceLT, Int.reduceLE, Int.reduceNe, Int.reduceAdd, Int.reduceSub, Int.reduceMul, Int.reduceNeg, Int.reduceGT, Int.reduceGE, ge_iff_le, gt_iff_lt, not_true_eq_false, not_false_eq_true, decide_not, decide_true, decide_false, Bool.not_true, Bool.not_false, Bool.and_true, Bool.true_and, Bool.and_false, Bool.false_and, Bool.or_true, Bool.true_or, Bool.or_false, Bool.false_or, and_true, true_and, and_self, Nat.zero_add, Nat.add_zero, Int.toNat_zero, Nat.zero_mul, wp_pure, beq_self_eq_true, bne_self_eq_false, reduceCtorEq]
theorem ab8 (s x o : Nat) (lv : a9) (k : Nat) (h : Hp) (n : Nat) (hr : Row h s [.ptr x o, lv]) (hl : cY env [57] lv = M.pure (.int .i64 (k : Nat))) (h1 : eK N2.i.desc = false) (hk : k ≤ 1000000) : Wp (bD env (evalW env) 20 [.ptr s 0]) h n fun v' h' n' => v' = .int .i64 ((k : Nat) - 1) ∧ h' = h ∧ n' = n := by
 have w1 : IntKind.i64.wrap (((k : Nat) : Int) - 1) = ((k : Nat) : Int) - 1 := w64 (by omega) (by omega)
 refine bL ff20 fi20 ?_
 simp only [VJ, Try.f20, Option.getD_some, List.replicate, aC, bH, dN, u8, tyr, fgr, hkr, execOp, opd, bG, opt, ofValue, eM, ofList, dE, aD, put, nth, aB, aL, aE, builtin, dH, fC, eP, dJ, min2, max2, blr, eT, fH, und, sizeOf, zeroOf, lenOf, bor, aJ, bE, aK, cP, intOp, bU, strOp, dG, cW, slK, dU, unOp, bC, branch, idx, bI, cellsOf, oneOf, eK, cel, alloc, cN, newRow, nilCheck, extract, aZ, ended, aT, aU, cX, dW, aS, fieldAddr, field, part, index, bR, bJ, equal, cZ, cH, dO, dT, eC, cJ, List.getElem?_cons_succ, List.getElem?_cons_zero, List.append_eq, List.cons_append, List.nil_append, List.append_nil, List.length_cons, List.length_nil, Nat.reduceAdd, Nat.reduceSub, Nat.beq, Option.bind_some, nc0, nc1, Int.cast_ofNat_Int, cV, cU, cT, ↓reduceIte, Int.reduceEq, Int.reduceLT, Int.reduceLE, Int.reduceNe, Int.reduceAdd, Int.reduceSub, Int.reduceMul, Int.reduceNeg, Int.reduceGT, Int.reduceGE, ge_iff_le, gt_iff_lt, not_true_eq_false, not_false_eq_true, decide_not, decide_true, decide_false, Bool.not_true, Bool.not_false, Bool.and_true, Bool.true_and, Bool.and_false, Bool.false_and, Bool.or_true, Bool.true_or, Bool.or_false, Bool.false_or, and_true, true_and, and_self, Nat.zero_add, Nat.add_zero, Int.toNat_zero, Nat.zero_mul, wp_pure, beq_self_eq_true, bne_self_eq_false, reduceCtorEq]
 refine eL (f66w s x o lv h n hr) ?_
 simp only [aC, bH, dN, u8, tyr, fgr, hkr, execOp, opd, bG, opt, ofValue, eM, ofList, dE, aD, put, nth, aB, aL, aE, builtin, dH, fC, eP, dJ, min2, max2, blr, eT, fH, und, sizeOf, zeroOf, lenOf, bor, aJ, bE, aK, cP, intOp, bU, strOp, dG, cW, slK, dU, unOp, bC, branch, idx, bI, cellsOf, oneOf, eK, cel, alloc, cN, newRow, nilCheck, extract, aZ, ended, aT, aU, cX, dW, aS, fieldAddr, field, part, index, bR, bJ, equal, cZ, cH, dO, dT, eC, cJ, List.getElem?_cons_succ, List.getElem?_cons_zero, List.append_eq, List.cons_append, List.nil_append, List.append_nil, List.length_cons, List.length_nil, Nat.reduceAdd, Nat.reduceSub, Nat.beq, Option.bind_some, nc0, nc1, Int.cast_ofNat_Int, cV, cU, cT, ↓reduceIte, Int.reduceEq, Int.reduceLT, Int.reduceLE, Int.reduceNe, Int.reduceAdd, Int.reduceSub, Int.reduceMul, Int.reduceNeg, Int.reduceGT, Int.reduceGE, ge_iff_le, gt_iff_lt, not_true_eq_false, not_false_eq_true, decide_not, decide_true, decide_false, Bool.not_true, Bool.not_false, Bool.and_true, Bool.true_and, Bool.and_false, Bool.false_and, Bool.or_true, Bool.true_or, Bool.or_false, Bool.false_or, and_true, true_and, and_self, Nat.zero_add, Nat.add_zero, Int.toNat_zero, Nat.zero_mul, wp_pure, beq_self_eq_true, bne_self_eq_false, reduceCtorEq]
 rw [aM (hr.one (off := 1) rfl sX rfl)]
 simp only [aC, bH, dN, u8, tyr, fgr, hkr, execOp, opd, bG, opt, ofValue, eM, ofList, dE, aD, put, nth, aB, aL, aE, builtin, dH, fC, eP, dJ, min2, max2, blr, eT, fH, und, sizeOf, zeroOf, lenOf, bor, aJ, bE, aK, cP, intOp, bU, strOp, dG, cW, slK, dU, unOp, bC, branch, idx, bI, cellsOf, oneOf, eK, cel, alloc, cN, newRow, nilCheck, extract, aZ, ended, aT, aU, cX, dW, aS, fieldAddr, field, part, index, bR, bJ, equal, cZ, cH, dO, dT, eC, cJ, List.getElem?_cons_succ, List.getElem?_cons_zero, List.append_eq, List.cons_append, List.nil_append, List.append_nil, List.length_cons, List.length_nil, Nat.reduceAdd, Nat.reduceSub, Nat.beq, Option.bind_some, nc0, nc1, Int.cast_ofNat_Int, cV, cU, cT, ↓reduceIte, Int.reduceEq, Int.reduceLT, Int.reduceLE, Int.reduceNe, Int.reduceAdd, Int.reduceSub, Int.reduceMul, Int.reduceNeg, Int.reduceGT, Int.reduceGE, ge_iff_le, gt_iff_lt, not_true_eq_false, not_false_eq_true, decide_not, decide_true, decide_false, Bool.not_true, Bool.not_false, Bool.and_true, Bool.true_and, Bool.and_false, Bool.false_and, Bool.or_true, Bool.true_or, Bool.or_false, Bool.false_or, and_true, true_and, and_self, Nat.zero_add, Nat.add_zero, Int.toNat_zero, Nat.zero_mul, wp_pure, beq_self_eq_true, bne_self_eq_false, reduceCtorEq, hl, w1]
theorem XV : kS Try.prog 20 zB := by
 refine AV (E := env) fun args s v s' h ho => ?_
 unfold zB at h
 split at h
 case h_2 => exact (aH h).elim
 rename_i a
 split at h
 case h_2 => exact (aH h).elim
 rename_i p off
 split at h
 case h_2 => exact (aH h).elim
 rename_i hoff
 have hoff := Nat.eq_of_beq_eq_true hoff
 subst hoff
 obtain ⟨b, s1, h1, h2⟩ := M.aQ h
 obtain ⟨hg, e1⟩ := eH h1
 cases b with
 | row c t =>
  simp only [cX] at h2
  split at h2
  case h_2 => exact (aH h2).elim
  rename_i cs
  split at h2
  case h_2 => exact (aH h2).elim
  rename_i x lv
  split at h2
  case h_2 => exact (aH h2).elim
  rename_i xi xo
  split at h2
  ·obtain ⟨rfl, rfl⟩ := aG h2
   exact ⟨e1, ab8 p xi xo .aV 0 _ _ ⟨t, hg⟩ rfl rfl (by omega)⟩
  ·rename_i i o len cap sz
   split at h2
   ·rename_i hle
    obtain ⟨rfl, rfl⟩ := aG h2
    exact ⟨e1, ab8 p xi xo _ len _ _ ⟨t, hg⟩ rfl rfl (Nat.le_of_ble_eq_true hle)⟩
   ·exact (aH h2).elim
  ·exact (aH h2).elim
 | _ => exact (aH h2).elim
end Go.Am.Ytlgebaofkolkoaa.Ins
