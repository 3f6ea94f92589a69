/- The abstract machine. -/
import Derived.Test.YtlgebaofkolkoaaAoQ
set_option linter.unusedSimpArgs false
set_option linter.unusedVariables false
set_option linter.defProp false
namespace Go.Am
open Go Go.RowKit
variable {E : Env} {fn : FuncId} {rnd : Option Nat} {Q : eB} {ks : List Kf} {tm : List a9} {h : Hp} {n : Nat} {ops rest : List Oper} {d : Option Tmp}
inductive Rds (h : Hp) (sz : Nat) : a9 → Nat → List a9 → Prop
  | nils : Rds h sz .nils 0 []
  | emp : Rds h sz .emp 0 []
  | isl (f : Nat → a9) (off cnt : Nat) (xs : List a9) (hl : xs.length = cnt * sz) (hf : ∀ j (hj : j < xs.length), f (off + j) = xs[j]) : Rds h sz (.isl f sz off cnt) cnt xs
  | sl (id off cnt : Nat) (cap : Option Nat) (c : bM) (e : TypeId) (xs : List a9) (hh : h id = some (.row c e)) (hl : xs.length = cnt * sz) (hs : off + xs.length ≤ c.size) (hc : ∀ j (hj : j < xs.length), c.at (off + j) = xs[j]) : Rds h sz (.sl id off cnt cap sz) cnt xs
def rid (v : a9) : List Nat := (bD v).toList
theorem Rds.length {sz cnt : Nat} {v : a9} {xs : List a9} (hr : Rds h sz v cnt xs) : xs.length = cnt * sz := by
  cases hr with
  | nils => simp
  | emp => simp
  | isl f off cnt xs hl hf => exact hl
  | sl id off cnt cap c e xs hh hl hs hc => exact hl
theorem Rds.len {sz cnt : Nat} {v : a9} {xs : List a9} (hr : Rds h sz v cnt xs) : lenOf v = M.pure cnt := by cases hr <;> rfl
theorem Rds.cI {sz cnt : Nat} {v : a9} {xs : List a9} (hr : Rds h sz v cnt xs) {t : TypeId} {ts : List TypeId} {e : TypeId} (ht : und E t = M.pure (.slice e)) : cI E (t :: ts) v = M.pure (.int .i64 (cnt : Nat)) := by
  cases hr <;> simp only [Am.cI, ht, bind_pure, lenOf] <;> rfl
theorem Rds.kind {sz cnt : Nat} {v : a9} {xs : List a9} (hr : Rds h sz v cnt xs) : v.cells = [v] ∧ bJ v = true ∧ dT v = false := by cases hr <;> exact ⟨rfl, rfl, rfl⟩
theorem Rds.aT {sz cnt : Nat} {v : a9} {xs : List a9} {h' : Hp} (hr : Rds h sz v cnt xs) (hk : ∀ j, bD v = some j → h' j = h j) : Rds h' sz v cnt xs := by
  cases hr with
  | nils => exact .nils
  | emp => exact .emp
  | isl f off cnt xs hl hf => exact .isl f off cnt xs hl hf
  | sl id off cnt cap c e xs hh hl hs hc => exact .sl id off cnt cap c e xs ((hk id rfl).trans hh) hl hs hc
theorem Rds.idx {sz cnt : Nat} {v : a9} {xs : List a9} (hr : Rds h sz v cnt xs) {t e : TypeId} (ht : und E t = M.pure (.slice e)) (he : sizeOf E e = M.pure sz) {kk : IntKind} {z : Int} {j : Nat} (hz : z = (j : Nat)) (hj : j < cnt) {h' : Hp} {n' : Nat} :
    Rd (indexAddr E t v (.int kk z)) h' n' [] (addrOf (j * sz) v) := by
  cases hr with
  | nils => omega
  | emp => omega
  | isl f off cnt xs hl hf => exact NK ht he hz hj
  | sl id off cnt cap c e xs hh hl hs hc => exact QI ht he hz hj
theorem iX {v : a9} {sz cnt : Nat} {xs : List a9} (hr : Rds h sz v cnt xs) (hc : 0 < cnt) (k m : Nat) : aO m (addrOf k v) = M.pure (addrOf (k + m) v) := by
  cases hr with
  | nils => omega
  | emp => omega
  | isl f off cnt xs hl hf => simp only [addrOf, aO, Nat.add_assoc]
  | sl id off cnt cap c e xs hh hl hs hc => simp only [addrOf, aO, Nat.add_assoc]
theorem Rds.load {sz cnt : Nat} {v : a9} {xs : List a9} (hr : Rds h sz v cnt xs) {t : TypeId} {i : TI} (hi : ti E t = M.pure i) (ha : eD i.desc = false) {k : Nat} {x : a9} (hx : xs[k]? = some x) :
    Rd (load E t (addrOf k v)) h n (rid v) x := by
  obtain ⟨hk, hx⟩ := List.getElem?_eq_some_iff.1 hx
  cases hr with
  | nils => simp at hk
  | emp => simp at hk
  | isl f off cnt xs hl hf =>
    simp only [Go.Am.load, hi, bind_pure, ha, bF, bind_assoc, addrOf]
    refine Rd.bind (i1 := []) (i2 := []) (Rd.ob (cT (by omega))) ?_
    rw [tH, hf k hk, hx]
    exact Rd.pure _
  | sl id off cnt cap c e xs hh hl hs hc =>
    simp only [Go.Am.load, hi, bind_pure, ha, bF, bind_assoc, addrOf]
    refine Rd.bind (i1 := [id]) (i2 := []) (Rd.get hh) ?_
    simp only [cO, bind_assoc]
    refine Rd.bind (i1 := []) (i2 := []) (Rd.ob (cT (by omega))) ?_
    rw [bM.sub_one (by omega), hc k hk, hx]
    exact Rd.pure _
theorem Rds.agg {sz cnt : Nat} {v : a9} {xs : List a9} (hr : Rds h sz v cnt xs) {t : TypeId} {i : TI} (hi : ti E t = M.pure i) (ha : eD i.desc = true) (hz : 0 < i.size) {k : Nat} (hk : k + i.size ≤ xs.length) :
    Rd (Go.Am.load E t (addrOf k v)) h n (rid v) (.agg ((xs.drop k).take i.size)) := by
  have hlen : ((xs.drop k).take i.size).length = i.size := by rw [List.length_take, List.length_drop]; omega
  have hget : ∀ j (hj : j < ((xs.drop k).take i.size).length), ((xs.drop k).take i.size)[j] = xs[k + j]'(by omega) := fun j hj => by simp
  cases hr with
  | nils => simp at hk; omega
  | emp => simp at hk; omega
  | isl f off cnt xs hl hf =>
    simp only [Go.Am.load, hi, bind_pure, ha, bF, bind_assoc, addrOf]
    refine Rd.bind (i1 := []) (i2 := []) (Rd.ob (cT (by omega))) ?_
    rw [jL f i.size (off + k) ((xs.drop k).take i.size) hlen (fun j hj => by rw [Nat.add_assoc, hf (k + j) (by omega), hget j hj])]
    exact Rd.pure _
  | sl id off cnt cap c e xs hh hl hs hc =>
    simp only [Go.Am.load, hi, bind_pure, ha, bF, bind_assoc, addrOf]
    refine Rd.bind (i1 := [id]) (i2 := []) (Rd.get hh) ?_
    simp only [cO, bind_assoc]
    refine Rd.bind (i1 := []) (i2 := []) (Rd.ob (cT (by omega))) ?_
    have := bM.sub_eq (c := c) (off := off + k) (l := (xs.drop k).take i.size) (by omega) (fun j hj => by rw [Nat.add_assoc, hc (k + j) (by omega), hget j hj])
    rw [hlen] at this
    rw [this]
    exact Rd.pure _
theorem Rds.cells {sz cnt : Nat} {v : a9} {xs : List a9} (hr : Rds h sz v cnt xs) : Rd (dO sz cnt v) h n (rid v) xs := by
  cases hr with
  | nils => exact Rd.bind (i1 := []) (i2 := []) (Rd.ob rfl) (Rd.pure _)
  | emp => exact Rd.bind (i1 := []) (i2 := []) (Rd.ob rfl) (Rd.pure _)
  | isl f off cnt xs hl hf =>
    simp only [dO, bN, Nat.beq_refl]
    refine Rd.bind (i1 := []) (i2 := []) (Rd.ob (cT (Nat.le_refl _))) ?_
    rw [jL f (cnt * sz) off xs hl (fun j hj => hf j hj)]
    exact Rd.pure _
  | sl id off cnt cap c e xs hh hl hs hc =>
    simp only [dO, bN, Nat.beq_refl]
    refine Rd.bind (i1 := [id]) (i2 := []) (Rd.get hh) ?_
    simp only [cO]
    refine Rd.bind (i1 := []) (i2 := []) (Rd.ob (cT (Nat.le_refl _))) ?_
    refine Rd.bind (i1 := []) (i2 := []) (Rd.ob (cT (by omega))) ?_
    have := bM.sub_eq (c := c) (off := off) (l := xs) hs hc
    rw [← hl, this]
    exact Rd.pure _
theorem Bytes.rds {v : a9} {l : List UInt8} (hb : Bytes h v l) : Rds h 1 v l.length (l.map u8) := by
  cases hb with
  | nils => exact .nils
  | isl f off l hf => exact .isl f off _ _ (by simp) (fun j hj => by rw [List.getElem_map]; exact hf j (by simpa using hj))
  | sl id off cap c e l hh hs hc => exact .sl id off _ cap c e _ hh (by simp) (by simpa using hs) (fun j hj => by rw [List.getElem_map]; exact hc j (by simpa using hj))
theorem Rds.bytes {v : a9} {cnt : Nat} {l : List UInt8} (hr : Rds h 1 v cnt (l.map u8)) (hn : v ≠ .emp) : Bytes h v l := by
  have hl := hr.length
  rw [List.length_map, Nat.mul_one] at hl
  generalize hx : l.map u8 = xs at hr
  cases hr with
  | nils => have : l = [] := by simpa using hx
            subst this; exact .nils
  | emp => exact absurd rfl hn
  | isl f off cnt xs hl2 hf =>
    subst hl
    exact .isl f off l (fun j hj => by subst hx; rw [hf j (by simpa using hj), List.getElem_map])
  | sl id off cnt cap c e xs hh hl2 hs hc =>
    subst hl
    exact .sl id off cap c e l hh (by subst hx; simpa using hs) (fun j hj => by subst hx; rw [hc j (by simpa using hj), List.getElem_map])
inductive Lst (h : Hp) (e : TypeId) (sz : Nat) : a9 → Nat → List a9 → Prop
  | nil : Lst h e sz .nils 0 []
  | sl (id cnt : Nat) (cap : Option Nat) (cells xs : List a9) (hh : h id = some (.row (.l cells) e)) (hl : cnt * sz ≤ cells.length) (hc : ∀ k, cap = some k → cnt ≤ k ∧ k * sz ≤ cells.length) (hx : cells.take (cnt * sz) = xs) : Lst h e sz (.sl id 0 cnt cap sz) cnt xs
theorem Lst.rds {e : TypeId} {sz cnt : Nat} {v : a9} {xs : List a9} (ho : Lst h e sz v cnt xs) : Rds h sz v cnt xs := by
  cases ho with
  | nil => exact .nils
  | sl id cnt cap cells xs hh hl hc hx =>
    subst hx
    refine .sl id 0 cnt cap (.l cells) e _ hh (by rw [List.length_take]; omega) (by rw [List.length_take]; show 0 + _ ≤ cells.length; omega) (fun j hj => ?_)
    rw [List.length_take] at hj
    rw [Nat.zero_add, bM.sT (by omega), List.getElem_take]
theorem Lst.aT {e : TypeId} {sz cnt : Nat} {v : a9} {xs : List a9} {h' : Hp} (ho : Lst h e sz v cnt xs) (hk : ∀ j, bD v = some j → h' j = h j) : Lst h' e sz v cnt xs := by
  cases ho with
  | nil => exact .nil
  | sl id cnt cap cells xs hh hl hc hx => exact .sl id cnt cap cells xs ((hk id rfl).trans hh) hl hc hx
theorem Lst.live {e : TypeId} {sz cnt : Nat} {v : a9} {xs : List a9} (ho : Lst h e sz v cnt xs) (hf : bK h n) {j : Nat} (hj : bD v = some j) : j < n := by
  cases ho with
  | nil => cases hj
  | sl id cnt cap cells xs hh hl hc hx =>
    injection hj with hj
    subst hj
    by_cases q : id < n
    · exact q
    · rw [hf id (by omega)] at hh; cases hh
theorem zE {e : TypeId} {sz cnt : Nat} {cap : Option Nat} {xs : List a9} {id : Nat} (hh : h id = some (.row (.l xs) e)) (hl : xs.length = cnt * sz) (hc : ∀ k, cap = some k → k = cnt) : Lst h e sz (.sl id 0 cnt cap sz) cnt xs :=
  .sl id cnt cap xs xs hh (by omega) (fun k hk => by have := hc k hk; subst this; omega) (by rw [← hl, List.take_length])
theorem nI {xs ys : List a9} {a : Nat} (h : a + ys.length ≤ xs.length) : (bX xs a ys).take (a + ys.length) = xs.take a ++ ys := by
  unfold bX
  rw [← List.append_assoc, List.take_append_of_le_length (by rw [List.length_append, List.length_take]; omega), List.take_of_length_le (by rw [List.length_append, List.length_take]; omega)]
theorem eV {α β : Type} {m : M α} {f : α → M β} {ids : List Nat} {a : α} {Q2 : β → Hp → Nat → Prop} (hr : Rd m h n ids a) (hw : Wp (f a) h n Q2) : Wp (m.bind f) h n Q2 :=
  wp_bind (wp_mono hr.wp fun a' h' n' ⟨e1, e2, e3⟩ => by subst e1; subst e2; subst e3; exact hw)
theorem pL {Q1 : a9 → Hp → Nat → Prop} {t t2 e : TypeId} {i : TI} {s x : a9} {cnt k : Nat} {xs ys : List a9} (hs : Lst h e i.size s cnt xs) (hx : Rds h i.size x k ys)
    (ht : und E t = M.pure (.slice e)) (ht2 : und E t2 = M.pure (.slice e)) (hi : ti E e = M.pure i) (hy : ys.all bJ = true) (hz : 0 < i.size)
    (hroom : 2 * (cnt + k) * i.bytes ≤ 281474976710656) (hroom2 : cnt + k ≤ 281474976710656) (hf : bK h n)
    (hq : ∀ v' h' n', n ≤ n' → bK h' n' → Lst h' e i.size v' (cnt + k) (xs ++ ys) → (bD v' = bD s ∨ bD v' = some n ∧ n < n') → (∀ j, j < n → bD s ≠ some j → h' j = h j) → Q1 v' h' n') :
    Wp (fG E [t, t2] s x) h n Q1 := by
  have hyl := hx.length
  simp only [fG, ht2, bind_pure, eU, append, ht, hi, hx.len, bind_assoc, fW]
  by_cases hk : k = 0
  · subst hk
    have hy0 : ys = [] := List.eq_nil_of_length_eq_zero (by omega)
    subst hy0
    have key : Lst h e i.size s (cnt + 0) (xs ++ []) := by rw [List.append_nil]; exact hs
    have := hq s h n (Nat.le_refl _) hf key (.inl rfl) (fun _ _ _ => rfl)
    rw [Nat.beq_refl]
    cases hs <;> exact wp_pure.2 this
  have hk0 : k.beq 0 = false := jM hk
  have hkz : 0 < k * i.size := Nat.mul_pos (by omega) hz
  simp only [hk0]
  refine eV hx.cells ?_
  have r1 : ((2 * (cnt + k) * i.bytes).ble room && (cnt + k).ble room) = true := by
    unfold room
    rw [cT hroom, cT hroom2]; rfl
  have grow : ∀ h1 : Hp, (∀ j, n ≤ j → h1 j = none) → (∀ j, j < n → bD s ≠ some j → h1 j = h j) → xs.length = cnt * i.size → Q1 (.sl n 0 (cnt + k) none i.size) (upd h1 n (some (.row (.l (xs ++ ys)) e))) (n + 1) := fun h1 hf1 ho1 hxl => by
    refine hq _ _ _ (by omega) (bK.new hf1) (zE (aU _ _ _) (by rw [List.length_append, hxl, hyl, Nat.add_mul]) (fun k hk => by cases hk)) (.inr ⟨rfl, by omega⟩) (fun j hj hn => ?_)
    rw [aR _ _ (by omega)]; exact ho1 j hj hn
  cases hs with
  | nil =>
    rw [Nat.zero_add] at r1
    simp only [grown, eL, gV, wp_pure, r1, true_and]
    have := grow h hf (fun _ _ _ => rfl) (by simp)
    simpa using this
  | sl id cnt cap cells xs hh hl hc hxs =>
    have hid : id < n := by
      by_cases q : id < n
      · exact q
      · rw [hf id (by omega)] at hh; cases hh
    have hxl : xs.length = cnt * i.size := by rw [← hxs, List.length_take]; omega
    have inplace : (cnt + k) * i.size ≤ cells.length → ∀ cap', (∀ j, cap' = some j → cnt + k ≤ j ∧ j * i.size ≤ cells.length) →
        Q1 (.sl id 0 (cnt + k) cap' i.size) (upd h id (some (.row (.l (bX cells (cnt * i.size) ys)) e))) n := fun hfit cap' hcap' => by
      rw [Nat.add_mul] at hfit
      have hsl := eY (xs := cells) (vs := ys) (off := cnt * i.size) (by omega)
      refine hq _ _ _ (Nat.le_refl _) (hf.upd hid) (.sl id (cnt + k) cap' _ _ (aU _ _ _) (by rw [hsl, Nat.add_mul]; omega) (fun j hj => by rw [hsl]; exact hcap' j hj) ?_) (.inl rfl) (fun j hj hn => aR _ _ (fun q => hn (by rw [q]; rfl)))
      rw [Nat.add_mul, ← hyl, nI (by omega), hxs]
    have hwr : ∀ {β : Type} (f : Unit → M β) (Q2 : β → Hp → Nat → Prop), (cnt + k) * i.size ≤ cells.length → Wp (f ()) (upd h id (some (.row (.l (bX cells (cnt * i.size) ys)) e))) n Q2 → Wp ((dN (.ptr id (0 + cnt * i.size)) ys).bind f) h n Q2 := fun f Q2 hfit hw => by
      rw [Nat.add_mul] at hfit
      have hb : (cnt * i.size + ys.length).ble cells.length = true := cT (by omega)
      simp only [dN, Nat.zero_add, bind_assoc, eW, hh, Option.some.injEq, exists_eq_left', cO, eL, bM.size, hb, hy, kO, true_and]
      rw [mB _ _ _ (by omega)]
      exact ⟨by simp, hw⟩
    have hrd : ∀ {β : Type} (f : List a9 → M β) (Q2 : β → Hp → Nat → Prop), Wp (f xs) h n Q2 → Wp ((dO i.size cnt (.sl id 0 cnt cap i.size)).bind f) h n Q2 := fun f Q2 hw => by
      have := (Lst.sl (e := e) (sz := i.size) id cnt cap cells xs hh hl hc hxs).rds.cells (n := n)
      exact eV this hw
    simp only [bN, Nat.beq_refl, eW, hh, Option.some.injEq, exists_eq_left', cO]
    cases cap with
    | none =>
      simp only [fW, Nat.zero_add, bM.size]
      by_cases hfit : (cnt + k) * i.size ≤ cells.length
      · rw [cT hfit]
        simp only [eL]
        refine ⟨Nat.ble_eq_true_of_le hz, ?_⟩
        have := hwr (fun _ => M.pure (a9.sl id 0 (cnt + k) none i.size)) Q1 hfit (wp_pure.2 (inplace hfit none (fun j hj => by cases hj)))
        rwa [Nat.zero_add] at this
      · rw [gP hfit]
        simp only [hy, Nat.beq_refl, Bool.and_self]
        refine hrd _ _ ?_
        simp only [yM, grown, eL, gV, wp_pure, r1, true_and, hh]
        refine ⟨by simp, grow (upd h id none) (fun j hj => by rw [aR _ _ (by omega)]; exact hf j hj) (fun j hj hn => aR _ _ (fun q => hn (by rw [q]; rfl))) hxl⟩
    | some m =>
      simp only [fW]
      obtain ⟨hc1, hc2⟩ := hc m rfl
      by_cases hfit : cnt + k ≤ m
      · have hfit2 : (cnt + k) * i.size ≤ cells.length := Nat.le_trans (Nat.mul_le_mul_right _ hfit) hc2
        rw [cT hfit]
        exact hwr _ _ hfit2 (wp_pure.2 (inplace hfit2 (some m) (fun j hj => by injection hj with hj; subst hj; exact ⟨hfit, hc2⟩)))
      · rw [gP hfit]
        refine hrd _ _ ?_
        simp only [grown, eL, gV, wp_pure, r1, true_and]
        exact grow h hf (fun _ _ _ => rfl) hxl
theorem fZ {t t2 e : TypeId} {i : TI} {s x : a9} {cnt k : Nat} {xs ys : List a9} (hs : Lst h e i.size s cnt xs) (hx : Rds h i.size x k ys)
    (ht : und E t = M.pure (.slice e)) (ht2 : und E t2 = M.pure (.slice e)) (hi : ti E e = M.pure i) (hy : ys.all bJ = true) (hz : 0 < i.size)
    (hroom : 2 * (cnt + k) * i.bytes ≤ 281474976710656) (hroom2 : cnt + k ≤ 281474976710656) (hf : bK h n)
    (hq : ∀ v' h' n', n ≤ n' → bK h' n' → Lst h' e i.size v' (cnt + k) (xs ++ ys) → (bD v' = bD s ∨ bD v' = some n ∧ n < n') → (∀ j, j < n → bD s ≠ some j → h' j = h j) → Ops E fn rnd Q ks ops rest (aC tm d v') h' n') :
    OpV E fn rnd Q ks ops rest d tm (fG E [t, t2] s x) h n := pL hs hx ht ht2 hi hy hz hroom hroom2 hf hq
theorem B1 {xs : List a9} {a b j : Nat} (hj : j < ((xs.drop a).take b).length) : ((xs.drop a).take b)[j] = xs[a + j]'(by rw [List.length_take, List.length_drop] at hj; omega) := by simp
theorem Rds.sub {sz cnt : Nat} {v : a9} {xs : List a9} (hr : Rds h sz v cnt xs) {lo hi : Nat} (h1 : lo ≤ hi) (h2 : hi ≤ cnt) : Rds h sz (jR lo hi v) (hi - lo) ((xs.drop (lo * sz)).take ((hi - lo) * sz)) := by
  have hl := hr.length
  have hm : lo * sz + (hi - lo) * sz ≤ cnt * sz := by rw [← Nat.add_mul]; exact Nat.mul_le_mul_right _ (by omega)
  have hlen : ((xs.drop (lo * sz)).take ((hi - lo) * sz)).length = (hi - lo) * sz := by rw [List.length_take, List.length_drop]; omega
  cases hr with
  | nils =>
    have e1 : hi = 0 := by omega
    have e2 : lo = 0 := by omega
    subst e1; subst e2
    simpa [jR] using Rds.nils
  | emp =>
    have e1 : hi = 0 := by omega
    have e2 : lo = 0 := by omega
    subst e1; subst e2
    simpa [jR] using Rds.emp
  | isl f off cnt xs hl2 hf => exact .isl f _ _ _ hlen (fun j hj => by rw [B1 hj, Nat.add_assoc]; exact hf _ _)
  | sl id off cnt cap c e xs hh hl2 hs hc => exact .sl id _ _ _ c e _ hh hlen (by omega) (fun j hj => by rw [B1 hj, Nat.add_assoc]; exact hc _ _)
theorem Rds.NM {sz cnt : Nat} {v : a9} {xs : List a9} (hr : Rds h sz v cnt xs) (ho : Roomy v) {t e : TypeId} (ht : und E t = M.pure (.slice e)) (he : sizeOf E e = M.pure sz) {k2 : IntKind} {hi : Nat} {z2 : Int} (e2 : z2 = (hi : Nat)) (h2 : hi ≤ cnt) {n' : Nat} {h' : Hp} :
    Rd (slice E t v none (some (.int k2 z2)) none) h' n' [] (jR 0 hi v) := by
  subst e2
  cases hr with
  | nils =>
    have e1 : hi = 0 := by omega
    subst e1
    simp only [slice, ht, he, bind_pure, bound, cP, bind_assoc]
    exact Rd.bind (i2 := []) (Rd.ob (by simp)) (Rd.pure _)
  | emp =>
    have e1 : hi = 0 := by omega
    subst e1
    simp only [slice, ht, he, bind_pure, bound, cP, bind_assoc]
    exact Rd.bind (i2 := []) (Rd.ob (by simp)) (Rd.pure _)
  | isl f off cnt xs hl hf =>
    simp only [slice, ht, he, bind_pure, bound, cP, bind_assoc, bN, Nat.beq_refl]
    exact Rd.bind (i2 := []) (Rd.ob (by simp; omega)) (Rd.pure _)
  | sl id off cnt cap c e xs hh hl hs hc =>
    cases cap with
    | none =>
      have hle : ((hi : Nat) : Int) ≤ ((cnt : Nat) : Int) := by omega
      simp only [slice, k9, decide_eq_true hle, ht, he, bind_pure, bound, cP, bind_assoc, bN, Nat.beq_refl]
      exact Rd.bind (i2 := []) (Rd.ob (by simp; omega)) (Rd.pure _)
    | some cc =>
      have hcc : cnt ≤ cc := ho
      simp only [slice, k9, ht, he, bind_pure, bound, cP, bind_assoc, bN, Nat.beq_refl]
      exact Rd.bind (i2 := []) (Rd.ob (by simp; omega)) (Rd.pure _)
theorem Rds.yS {sz cnt : Nat} {v : a9} {xs : List a9} (hr : Rds h sz v cnt xs) {t e : TypeId} (ht : und E t = M.pure (.slice e)) (he : sizeOf E e = M.pure sz) {k1 : IntKind} {lo : Nat} {z1 : Int} (e1 : z1 = (lo : Nat)) (h2 : lo ≤ cnt) {n' : Nat} {h' : Hp} :
    Rd (slice E t v (some (.int k1 z1)) none none) h' n' [] (jR lo cnt v) := by
  subst e1
  cases hr with
  | nils =>
    have e2 : lo = 0 := by omega
    subst e2
    simp only [slice, ht, he, bind_pure, bound, cP, bind_assoc]
    exact Rd.bind (i2 := []) (Rd.ob (by simp)) (Rd.pure _)
  | emp =>
    have e2 : lo = 0 := by omega
    subst e2
    simp only [slice, ht, he, bind_pure, bound, cP, bind_assoc]
    exact Rd.bind (i2 := []) (Rd.ob (by simp)) (Rd.pure _)
  | isl f off cnt xs hl hf =>
    simp only [slice, ht, he, bind_pure, bound, cP, bind_assoc, bN, Nat.beq_refl]
    exact Rd.bind (i2 := []) (Rd.ob (by simp; omega)) (Rd.pure _)
  | sl id off cnt cap c e xs hh hl hs hc =>
    cases cap with
    | none =>
      simp only [slice, k9, ht, he, bind_pure, bound, cP, bind_assoc, bN, Nat.beq_refl]
      exact Rd.bind (i2 := []) (Rd.ob (by simp; omega)) (Rd.pure _)
    | some cc =>
      simp only [slice, k9, ht, he, bind_pure, bound, cP, bind_assoc, bN, Nat.beq_refl]
      exact Rd.bind (i2 := []) (Rd.ob (by simp; omega)) (Rd.pure _)
theorem Lst.roomy {e : TypeId} {sz cnt : Nat} {v : a9} {xs : List a9} (ho : Lst h e sz v cnt xs) : Roomy v := by
  cases ho with
  | nil => trivial
  | sl id cnt cap cells xs hh hl hc hx =>
    cases cap with
    | none => trivial
    | some c => exact (hc c rfl).1
theorem Lst.pre {e : TypeId} {sz cnt : Nat} {v : a9} {xs : List a9} (ho : Lst h e sz v cnt xs) {hi : Nat} (h2 : hi ≤ cnt) : Lst h e sz (jR 0 hi v) hi (xs.take (hi * sz)) := by
  cases ho with
  | nil =>
    have : hi = 0 := by omega
    subst this
    simpa [jR] using Lst.nil
  | sl id cnt cap cells xs hh hl hc hx =>
    have hm := Nat.mul_le_mul_right sz h2
    have xe : cells.take (hi * sz) = xs.take (hi * sz) := by rw [← hx, List.take_take, Nat.min_eq_left hm]
    cases cap with
    | none =>
      simp only [jR, Nat.zero_mul, Nat.add_zero, Nat.sub_zero]
      exact .sl id hi none cells _ hh (by omega) (fun k hk => by cases hk) xe
    | some c =>
      simp only [jR, Nat.zero_mul, Nat.add_zero, Nat.sub_zero]
      have := hc c rfl
      exact .sl id hi (some c) cells _ hh (by omega) (fun k hk => by injection hk with hk; subst hk; exact ⟨by omega, this.2⟩) xe
def tE (a : Nat) : a9 → a9
  | .sl id off _ _ sz => .sl id off a (some a) sz
  | v => v
theorem Lst.US {sz cnt : Nat} {v : a9} {xs : List a9} {e : TypeId} (hr : Lst h e sz v cnt xs) {t : TypeId} (ht : und E t = M.pure (.slice e)) (he : sizeOf E e = M.pure sz) {k1 k2 : IntKind} {a : Nat} {z1 : Int} (e1 : z1 = (a : Nat)) (h2 : a ≤ cnt) {n' : Nat} {h' : Hp} :
    Rd (slice E t v none (some (.int k1 z1)) (some (.int k2 z1))) h' n' [] (tE a v) := by
  subst e1
  have ro := hr.roomy
  cases hr with
  | nil =>
    have e2 : a = 0 := by omega
    subst e2
    simp only [slice, ht, he, bind_pure, bound, cP, bind_assoc]
    exact Rd.bind (i2 := []) (Rd.ob (by simp)) (Rd.bind (i2 := []) (Rd.ob (by simp)) (Rd.pure _))
  | sl id cnt cap cells xs hh hl hc hx =>
    have hb : ((a : Nat) : Int) ≤ ((cap.getD cnt : Nat) : Int) := by
      cases cap with
      | none => simp only [Option.getD_none]; omega
      | some c => have := (hc c rfl).1; simp only [Option.getD_some]; omega
    simp only [slice, ht, he, bind_pure, bound, cP, bind_assoc, bN, Nat.beq_refl, Nat.zero_mul, Nat.add_zero, Nat.sub_zero, Int.toNat_natCast]
    exact Rd.bind (i2 := []) (Rd.ob (decide_eq_true ⟨by omega, hb⟩)) (Rd.bind (i2 := []) (Rd.ob (decide_eq_true ⟨by omega, by omega⟩)) (Rd.pure _))
theorem Lst.cut {e : TypeId} {sz cnt : Nat} {v : a9} {xs : List a9} (ho : Lst h e sz v cnt xs) {a : Nat} (h2 : a ≤ cnt) : Lst h e sz (tE a v) a (xs.take (a * sz)) := by
  cases ho with
  | nil =>
    have : a = 0 := by omega
    subst this
    simpa [jR, tE] using Lst.nil
  | sl id cnt cap cells xs hh hl hc hx =>
    have hm := Nat.mul_le_mul_right sz h2
    exact .sl id a _ cells _ hh (by omega) (fun k hk => by injection hk with hk; subst hk; exact ⟨Nat.le_refl _, by omega⟩) (by rw [← hx, List.take_take, Nat.min_eq_left hm])
theorem KI (a : Nat) (v : a9) : bD (tE a v) = bD v := by cases v <;> rfl
theorem HT {v : a9} {b : Bool} (hv : nU v = M.pure b) {t e : TypeId} (ht : und E t = M.pure (.slice e)) : bG E t v .nils = M.pure b := by
  unfold bG equal
  rw [ht, bind_pure]
  simp only
  rw [hv, bind_pure, dF, bind_pure, Bool.or_true, Bool.and_true]
theorem Lst.B9 {e : TypeId} {sz cnt : Nat} {v : a9} {xs : List a9} (ho : Lst h e sz v cnt xs) {t : TypeId} (ht : und E t = M.pure (.slice e)) : binOp E .eql t v .nils = M.pure (.bool (lB v)) ∧ (lB v = true → v = .nils ∧ cnt = 0 ∧ xs = []) := by
  cases ho with
  | nil =>
    refine ⟨?_, fun _ => ⟨rfl, rfl, rfl⟩⟩
    show aY E .eql t .nils .nils = _
    unfold aY
    simp only
    rw [HT dF ht]; rfl
  | sl id cnt cap cells xs hh hl hc hx =>
    refine ⟨?_, fun q => by cases q⟩
    show aY E .eql t (.sl id 0 cnt cap sz) .nils = _
    unfold aY
    simp only
    rw [HT (dK _ _ _ _ _) ht]; rfl
theorem nG {id : Nat} {args : List a9} {l : lN} {Q1 : a9 → Hp → Nat → Prop} (hl : h id = some (.loop l)) (hs : l.state = .ready) (ha : args.length.beq l.params.length = true)
    (hw : Run E l.fn (some id) (fun e tm1 h1 n1 => e = .normal ∧ ∃ l2, h1 id = some (.loop l2) ∧ l2.state = .ready ∧
      Run E l.fn (some id) (fun e2 tm2 h2 n2 => ∃ l3, h2 id = some (.loop l3) ∧
        Q1 (.blit (tB e2)) (Go.Am.upd h2 id (some (.loop { l3 with state := (match tB e2 with | true => .ready | false => .done), pending := sJ e2 }))) n2)
        l.body [] tm1 (Go.Am.upd h1 id (some (.loop { l2 with state := .busy }))) n1) l.assign [] (lW l.tmps (l.params.zip args)) h n) :
    Wp (jA E (evalW E) (.fn (.yield id) [] []) args) h n Q1 := by
  simp only [jA, qK]
  refine eW.2 ⟨_, hl, ?_⟩
  simp only [dM, ha, hs, dG]
  refine wp_mono hw fun r h1 n1 hr => ?_
  obtain ⟨e, tm1⟩ := r
  obtain ⟨he, l2, hl2, hs2, hb⟩ := hr
  subst he
  refine eW.2 ⟨_, hl2, ?_⟩
  simp only [dM, hs2]
  refine kO.2 ⟨by rw [hl2]; simp, ?_⟩
  refine dG.2 (wp_mono hb fun r2 h2 n2 hr2 => ?_)
  obtain ⟨e2, tm2⟩ := r2
  obtain ⟨l3, hl3, hq⟩ := hr2
  refine eW.2 ⟨_, hl3, ?_⟩
  simp only [dM]
  refine kO.2 ⟨by rw [hl3]; simp, ?_⟩
  exact wp_pure.2 hq
theorem NT {j : Nat} {fs : List fN} {t : TypeId} {i : TI} (hi : ti E t = M.pure i) {xs : List a9} {f : Nat → a9} (hf : bK h n)
    (hq : ∀ H r w, H n = some (.row (.l xs) t) → (∀ k, k ≠ n → H k = h k) → bK H (n + 1) → Fe E fn rnd Q ks ops (j + 1) rest (aC tm d (f n)) (⟨j, r, w, n, n + 1⟩ :: fs) H (n + 1)) :
    FeV E fn rnd Q ks ops j rest d tm fs ((newRow E t xs).bind fun id => M.pure (f id)) h n := by
  refine dI hf (Q1 := fun v' h' n' => v' = f n ∧ h' = Go.Am.upd h n (some (.row (.l xs) t)) ∧ n' = n + 1) ?_ fun v' h' n' r w hn hf' hh => ?_
  · simp only [newRow, hi, bind_pure, gV, wp_pure, bind_assoc, and_self]
  · obtain ⟨rfl, rfl, rfl⟩ := hh
    exact hq _ r w (aU _ _ _) (fun k hk => aR _ _ hk) hf'
theorem j6 {t : TypeId} {i : TI} (hi : ti E t = M.pure i) {xs : List a9} {f : Nat → a9} (hf : bK h n)
    (hq : ∀ H, H n = some (.row (.l xs) t) → (∀ k, k ≠ n → H k = h k) → bK H (n + 1) → Ops E fn rnd Q ks ops rest (aC tm d (f n)) H (n + 1)) :
    OpV E fn rnd Q ks ops rest d tm ((newRow E t xs).bind fun id => M.pure (f id)) h n := by
  simp only [newRow, hi, bind_pure, qU, iO, bind_assoc]
  exact hq _ (aU _ _ _) (fun k hk => aR _ _ hk) hf.new
theorem qQ {sz cnt id : Nat} {cap : Option Nat} {xs : List a9} {e : TypeId} (hh : h id = some (.row (.l xs) e)) (hl : xs.length = cnt * sz) : Rds h sz (.sl id 0 cnt cap sz) cnt xs :=
  .sl id 0 cnt cap (.l xs) e xs hh hl (by show 0 + xs.length ≤ xs.length; omega) (fun j hj => by rw [Nat.zero_add, bM.sT hj])
theorem kQ {h : Hp} {id : Nat} {b : Option Blk} (e : h id = b) : Go.Am.upd h id b = h := funext fun j => by
  by_cases q : j = id
  · subst q; rw [aU, e]
  · rw [aR _ _ q]
theorem yN {Q1 : a9 → Hp → Nat → Prop} {t t2 e e' : TypeId} {i : TI} {x : a9} {id cnt k : Nat} {cap : Option Nat} {cells ys : List a9} (hh : h id = some (.row (.l cells) e')) (hx : Rds h i.size x k ys)
    (ht : und E t = M.pure (.slice e)) (ht2 : und E t2 = M.pure (.slice e)) (hi : ti E e = M.pure i) (hy : ys.all bJ = true) (hz : 0 < i.size)
    (hfit : (cnt + k) * i.size ≤ cells.length) (hcap : ∀ m, cap = some m → cnt + k ≤ m)
    (hq : Q1 (.sl id 0 (cnt + k) cap i.size) (Go.Am.upd h id (some (.row (.l (bX cells (cnt * i.size) ys)) e'))) n) :
    Wp (fG E [t, t2] (.sl id 0 cnt cap i.size) x) h n Q1 := by
  have hyl := hx.length
  simp only [fG, ht2, bind_pure, eU, append, ht, hi, hx.len, bind_assoc, fW]
  by_cases hk : k = 0
  · subst hk
    have hy0 : ys = [] := List.eq_nil_of_length_eq_zero (by omega)
    subst hy0
    have hs : bX cells (cnt * i.size) [] = cells := by unfold bX; simp
    rw [hs, kQ hh, Nat.add_zero] at hq
    simp only [Nat.beq_refl]
    exact wp_pure.2 hq
  simp only [jM hk]
  refine eV hx.cells ?_
  have hwr : ∀ {β : Type} (f : Unit → M β) (Q2 : β → Hp → Nat → Prop), Wp (f ()) (Go.Am.upd h id (some (.row (.l (bX cells (cnt * i.size) ys)) e'))) n Q2 → Wp ((dN (.ptr id (0 + cnt * i.size)) ys).bind f) h n Q2 := fun f Q2 hw => by
    rw [Nat.add_mul] at hfit
    have hb : (cnt * i.size + ys.length).ble cells.length = true := cT (by omega)
    simp only [dN, Nat.zero_add, bind_assoc, eW, hh, Option.some.injEq, exists_eq_left', cO, eL, bM.size, hb, hy, kO, true_and]
    rw [mB _ _ _ (by omega)]
    exact ⟨by simp, hw⟩
  simp only [bN, Nat.beq_refl, eW, hh, Option.some.injEq, exists_eq_left', cO]
  cases cap with
  | none =>
    simp only [fW, Nat.zero_add, bM.size, cT hfit, eL]
    refine ⟨Nat.ble_eq_true_of_le hz, ?_⟩
    have := hwr (fun _ => M.pure (a9.sl id 0 (cnt + k) none i.size)) Q1 (wp_pure.2 hq)
    rwa [Nat.zero_add] at this
  | some m =>
    simp only [fW, cT (hcap m rfl)]
    exact hwr _ _ (wp_pure.2 hq)
theorem Lst.inv {e : TypeId} {sz cnt : Nat} {v : a9} {xs : List a9} (ho : Lst h e sz v cnt xs) (hc : 0 < cnt) : ∃ id cap cells, v = .sl id 0 cnt cap sz ∧ h id = some (.row (.l cells) e) ∧ cnt * sz ≤ cells.length ∧ (∀ k, cap = some k → cnt ≤ k ∧ k * sz ≤ cells.length) ∧ cells.take (cnt * sz) = xs := by
  cases ho with
  | nil => omega
  | sl id cnt cap cells xs hh hl hc hx => exact ⟨id, cap, cells, rfl, hh, hl, hc, hx⟩
theorem EN {j : Nat} {fs : List fN} {t : TypeId} {i : TI} {v : a9} (hi : ti E t = M.pure i) (hv : dT v = false) (hf : bK h n)
    (hq : ∀ H r w, H n = some (.row (.l v.cells) t) → (∀ k, k ≠ n → H k = h k) → bK H (n + 1) → Fe E fn rnd Q ks ops (j + 1) rest (aC tm d (.ptr n 0)) (⟨j, r, w, n, n + 1⟩ :: fs) H (n + 1)) :
    FeV E fn rnd Q ks ops j rest d tm fs (alloc E t v) h n := by
  simp only [alloc, hv]
  exact NT hi hf hq
theorem jX {j : Nat} {fs : List fN} {t : TypeId} {i : TI} (hi : ti E t = M.pure i) {xs : List a9} {f : Nat → a9} (hf : bK h n)
    (hq : ∀ H, H n = some (.row (.l xs) t) → (∀ k, k ≠ n → H k = h k) → bK H (n + 1) → Fe E fn rnd Q ks ops (j + 1) rest (aC tm d (f n)) (⟨j, [], [], n, n + 1⟩ :: fs) H (n + 1)) :
    FeV E fn rnd Q ks ops j rest d tm fs ((newRow E t xs).bind fun id => M.pure (f id)) h n := by
  have key : ∀ H : Hp, Wp ((newRow E t xs).bind fun id => M.pure (f id)) H n fun v' h' n' => v' = f n ∧ h' = Go.Am.upd H n (some (.row (.l xs) t)) ∧ n' = n + 1 := fun H => by
    simp only [newRow, hi, bind_pure, gV, wp_pure, bind_assoc, and_self]
  refine oD hf (key _) (key _) fun v' h' n' hn hf' hh => ?_
  obtain ⟨rfl, rfl, rfl⟩ := hh
  exact hq _ (aU _ _ _) (fun k hk => aR _ _ hk) hf'
theorem rD {x : List Nat} {f : fN} (h : ∀ id, id ∈ x → id < f.lo ∨ f.hi ≤ id) : kE x f = false := by
  unfold kE
  cases f.lo.beq f.hi with
  | true => rfl
  | false =>
    simp only
    rw [List.any_eq_false]
    intro y hy
    unfold within
    rcases h y hy with q | q
    · rw [gP (by omega)]; simp
    · rw [show y.blt f.hi = false from gP (by omega)]; simp
theorem KR {i j a b c e : Nat} {r w : List Nat} (hr : ∀ id, id ∈ r → id < a ∨ b ≤ id) (hw : ∀ id, id ∈ w → id < a ∨ b ≤ id) : fE ⟨i, [], [], a, b⟩ ⟨j, r, w, c, e⟩ = false := by
  unfold fE
  simp only [kM, lD, Bool.false_or]
  rw [rD (f := ⟨i, [], [], a, b⟩) hr, rD (f := ⟨i, [], [], a, b⟩) hw]; rfl
theorem KQ {i j a b c e : Nat} {r w : List Nat} (hr : ∀ id, id ∈ r → id < a ∨ b ≤ id) (hw : ∀ id, id ∈ w → id < a ∨ b ≤ id) : fE ⟨j, r, w, c, e⟩ ⟨i, [], [], a, b⟩ = false := by
  unfold fE
  simp only [jH, lD, Bool.false_or, Bool.or_false]
  rw [rD (f := ⟨i, [], [], a, b⟩) hr, rD (f := ⟨i, [], [], a, b⟩) hw]; rfl
end Go.Am
