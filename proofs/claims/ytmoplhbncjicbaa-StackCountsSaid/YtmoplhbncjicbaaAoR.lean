/- Lists of whatever elements in memory: slices that are read, and slices that are grown. -/
import Derived.Test.YtmoplhbncjicbaaAoQ
set_option linter.unusedSimpArgs false
set_option linter.unusedVariables false
set_option linter.defProp false
namespace Go.Am
open Go Go.RowKit
variable {E : Env} {fn : FuncId} {rnd : Option Nat} {Q : Post0} {ks : List Kf} {tm : List AVal} {h : Hp} {n : Nat} {ops rest : List Oper} {d : Option Tmp}
/-- A slice whose elements' cells are xs, to be read. -/
inductive Rds (h : Hp) (sz : Nat) : AVal → Nat → List AVal → Prop
  | nils : Rds h sz .nils 0 []
  | emp : Rds h sz .emp 0 []
  | isl (f : Nat → AVal) (off cnt : Nat) (xs : List AVal) (hl : xs.length = cnt * sz) (hf : ∀ j (hj : j < xs.length), f (off + j) = xs[j]) : Rds h sz (.isl f sz off cnt) cnt xs
  | sl (id off cnt : Nat) (cap : Option Nat) (c : Cont) (e : TypeId) (xs : List AVal) (hh : h id = some (.row c e)) (hl : xs.length = cnt * sz) (hs : off + xs.length ≤ c.size) (hc : ∀ j (hj : j < xs.length), c.at (off + j) = xs[j]) : Rds h sz (.sl id off cnt cap sz) cnt xs
def rid (v : AVal) : List Nat := (ownId v).toList
theorem Rds.length {sz cnt : Nat} {v : AVal} {xs : List AVal} (hr : Rds h sz v cnt xs) : xs.length = cnt * sz := by
  cases hr with
  | nils => simp
  | emp => simp
  | isl f off cnt xs hl hf => exact hl
  | sl id off cnt cap c e xs hh hl hs hc => exact hl
theorem Rds.len {sz cnt : Nat} {v : AVal} {xs : List AVal} (hr : Rds h sz v cnt xs) : lenOf v = M.pure cnt := by cases hr <;> rfl
theorem Rds.bLen {sz cnt : Nat} {v : AVal} {xs : List AVal} (hr : Rds h sz v cnt xs) {t : TypeId} {ts : List TypeId} {e : TypeId} (ht : und E t = M.pure (.slice e)) : bLen E (t :: ts) v = M.pure (.int .i64 (cnt : Nat)) := by
  cases hr <;> simp only [Am.bLen, ht, bind_pure, lenOf] <;> rfl
theorem Rds.kind {sz cnt : Nat} {v : AVal} {xs : List AVal} (hr : Rds h sz v cnt xs) : v.cells = [v] ∧ oneCell v = true ∧ isJunk v = false := by cases hr <;> exact ⟨rfl, rfl, rfl⟩
theorem Rds.keep {sz cnt : Nat} {v : AVal} {xs : List AVal} {h' : Hp} (hr : Rds h sz v cnt xs) (hk : ∀ j, ownId v = some j → h' j = h j) : Rds h' sz v cnt xs := by
  cases hr with
  | nils => exact .nils
  | emp => exact .emp
  | isl f off cnt xs hl hf => exact .isl f off cnt xs hl hf
  | sl id off cnt cap c e xs hh hl hs hc => exact .sl id off cnt cap c e xs ((hk id rfl).trans hh) hl hs hc
theorem Rds.idx {sz cnt : Nat} {v : AVal} {xs : List AVal} (hr : Rds h sz v cnt xs) {t e : TypeId} (ht : und E t = M.pure (.slice e)) (he : sizeOf E e = M.pure sz) {kk : IntKind} {z : Int} {j : Nat} (hz : z = (j : Nat)) (hj : j < cnt) {h' : Hp} {n' : Nat} :
    Rd (indexAddr E t v (.int kk z)) h' n' [] (addrOf (j * sz) v) := by
  cases hr with
  | nils => omega
  | emp => omega
  | isl f off cnt xs hl hf => exact isl_idx ht he hz hj
  | sl id off cnt cap c e xs hh hl hs hc => exact sl_idx ht he hz hj
/-- The address of a cell in a slice, and of one that lies further on. -/
theorem moved_adr {v : AVal} {sz cnt : Nat} {xs : List AVal} (hr : Rds h sz v cnt xs) (hc : 0 < cnt) (k m : Nat) : moved m (addrOf k v) = M.pure (addrOf (k + m) v) := by
  cases hr with
  | nils => omega
  | emp => omega
  | isl f off cnt xs hl hf => simp only [addrOf, moved, Nat.add_assoc]
  | sl id off cnt cap c e xs hh hl hs hc => simp only [addrOf, moved, Nat.add_assoc]
theorem Rds.load {sz cnt : Nat} {v : AVal} {xs : List AVal} (hr : Rds h sz v cnt xs) {t : TypeId} {i : TI} (hi : ti E t = M.pure i) (ha : aggB i.desc = false) {k : Nat} {x : AVal} (hx : xs[k]? = some x) :
    Rd (load E t (addrOf k v)) h n (rid v) x := by
  obtain ⟨hk, hx⟩ := List.getElem?_eq_some_iff.1 hx
  cases hr with
  | nils => simp at hk
  | emp => simp at hk
  | isl f off cnt xs hl hf =>
    simp only [Go.Am.load, hi, bind_pure, ha, readCells, bind_assoc, addrOf]
    refine Rd.bind (i1 := []) (i2 := []) (Rd.ob (ble_of (by omega))) ?_
    rw [cellsOf_one, hf k hk, hx]
    exact Rd.pure _
  | sl id off cnt cap c e xs hh hl hs hc =>
    simp only [Go.Am.load, hi, bind_pure, ha, readCells, bind_assoc, addrOf]
    refine Rd.bind (i1 := [id]) (i2 := []) (Rd.get hh) ?_
    simp only [rowK, bind_assoc]
    refine Rd.bind (i1 := []) (i2 := []) (Rd.ob (ble_of (by omega))) ?_
    rw [Cont.sub_one (by omega), hc k hk, hx]
    exact Rd.pure _
theorem Rds.agg {sz cnt : Nat} {v : AVal} {xs : List AVal} (hr : Rds h sz v cnt xs) {t : TypeId} {i : TI} (hi : ti E t = M.pure i) (ha : aggB i.desc = true) (hz : 0 < i.size) {k : Nat} (hk : k + i.size ≤ xs.length) :
    Rd (Go.Am.load E t (addrOf k v)) h n (rid v) (.agg ((xs.drop k).take i.size)) := by
  have hlen : ((xs.drop k).take i.size).length = i.size := by rw [List.length_take, List.length_drop]; omega
  have hget : ∀ j (hj : j < ((xs.drop k).take i.size).length), ((xs.drop k).take i.size)[j] = xs[k + j]'(by omega) := fun j hj => by simp
  cases hr with
  | nils => simp at hk; omega
  | emp => simp at hk; omega
  | isl f off cnt xs hl hf =>
    simp only [Go.Am.load, hi, bind_pure, ha, readCells, bind_assoc, addrOf]
    refine Rd.bind (i1 := []) (i2 := []) (Rd.ob (ble_of (by omega))) ?_
    rw [cellsOf_eq f i.size (off + k) ((xs.drop k).take i.size) hlen (fun j hj => by rw [Nat.add_assoc, hf (k + j) (by omega), hget j hj])]
    exact Rd.pure _
  | sl id off cnt cap c e xs hh hl hs hc =>
    simp only [Go.Am.load, hi, bind_pure, ha, readCells, bind_assoc, addrOf]
    refine Rd.bind (i1 := [id]) (i2 := []) (Rd.get hh) ?_
    simp only [rowK, bind_assoc]
    refine Rd.bind (i1 := []) (i2 := []) (Rd.ob (ble_of (by omega))) ?_
    have := Cont.sub_eq (c := c) (off := off + k) (l := (xs.drop k).take i.size) (by omega) (fun j hj => by rw [Nat.add_assoc, hc (k + j) (by omega), hget j hj])
    rw [hlen] at this
    rw [this]
    exact Rd.pure _
theorem Rds.cells {sz cnt : Nat} {v : AVal} {xs : List AVal} (hr : Rds h sz v cnt xs) : Rd (sliceCells sz cnt v) h n (rid v) xs := by
  cases hr with
  | nils => exact Rd.bind (i1 := []) (i2 := []) (Rd.ob rfl) (Rd.pure _)
  | emp => exact Rd.bind (i1 := []) (i2 := []) (Rd.ob rfl) (Rd.pure _)
  | isl f off cnt xs hl hf =>
    simp only [sliceCells, sameSz, Nat.beq_refl]
    refine Rd.bind (i1 := []) (i2 := []) (Rd.ob (ble_of (Nat.le_refl _))) ?_
    rw [cellsOf_eq f (cnt * sz) off xs hl (fun j hj => hf j hj)]
    exact Rd.pure _
  | sl id off cnt cap c e xs hh hl hs hc =>
    simp only [sliceCells, sameSz, Nat.beq_refl]
    refine Rd.bind (i1 := [id]) (i2 := []) (Rd.get hh) ?_
    simp only [rowK]
    refine Rd.bind (i1 := []) (i2 := []) (Rd.ob (ble_of (Nat.le_refl _))) ?_
    refine Rd.bind (i1 := []) (i2 := []) (Rd.ob (ble_of (by omega))) ?_
    have := Cont.sub_eq (c := c) (off := off) (l := xs) hs hc
    rw [← hl, this]
    exact Rd.pure _
theorem Bytes.rds {v : AVal} {l : List UInt8} (hb : Bytes h v l) : Rds h 1 v l.length (l.map u8) := by
  cases hb with
  | nils => exact .nils
  | isl f off l hf => exact .isl f off _ _ (by simp) (fun j hj => by rw [List.getElem_map]; exact hf j (by simpa using hj))
  | sl id off cap c e l hh hs hc => exact .sl id off _ cap c e _ hh (by simp) (by simpa using hs) (fun j hj => by rw [List.getElem_map]; exact hc j (by simpa using hj))
theorem Rds.bytes {v : AVal} {cnt : Nat} {l : List UInt8} (hr : Rds h 1 v cnt (l.map u8)) (hn : v ≠ .emp) : Bytes h v l := by
  have hl := hr.length
  rw [List.length_map, Nat.mul_one] at hl
  generalize hx : l.map u8 = xs at hr
  cases hr with
  | nils =>
    have : l = [] := by simpa using hx
    subst this; exact .nils
  | emp => exact absurd rfl hn
  | isl f off cnt xs hl2 hf =>
    subst hl
    exact .isl f off l (fun j hj => by subst hx; rw [hf j (by simpa using hj), List.getElem_map])
  | sl id off cnt cap c e xs hh hl2 hs hc =>
    subst hl
    exact .sl id off cap c e l hh (by subst hx; simpa using hs) (fun j hj => by subst hx; rw [hc j (by simpa using hj), List.getElem_map])
/-- A slice that begins with its block, and is grown. -/
inductive Lst (h : Hp) (e : TypeId) (sz : Nat) : AVal → Nat → List AVal → Prop
  | nil : Lst h e sz .nils 0 []
  | sl (id cnt : Nat) (cap : Option Nat) (cells xs : List AVal) (hh : h id = some (.row (.l cells) e)) (hl : cnt * sz ≤ cells.length) (hc : ∀ k, cap = some k → cnt ≤ k ∧ k * sz ≤ cells.length) (hx : cells.take (cnt * sz) = xs) : Lst h e sz (.sl id 0 cnt cap sz) cnt xs
theorem Lst.rds {e : TypeId} {sz cnt : Nat} {v : AVal} {xs : List AVal} (ho : Lst h e sz v cnt xs) : Rds h sz v cnt xs := by
  cases ho with
  | nil => exact .nils
  | sl id cnt cap cells xs hh hl hc hx =>
    subst hx
    refine .sl id 0 cnt cap (.l cells) e _ hh (by rw [List.length_take]; omega) (by rw [List.length_take]; show 0 + _ ≤ cells.length; omega) (fun j hj => ?_)
    rw [List.length_take] at hj
    rw [Nat.zero_add, Cont.at_l (by omega), List.getElem_take]
theorem Lst.keep {e : TypeId} {sz cnt : Nat} {v : AVal} {xs : List AVal} {h' : Hp} (ho : Lst h e sz v cnt xs) (hk : ∀ j, ownId v = some j → h' j = h j) : Lst h' e sz v cnt xs := by
  cases ho with
  | nil => exact .nil
  | sl id cnt cap cells xs hh hl hc hx => exact .sl id cnt cap cells xs ((hk id rfl).trans hh) hl hc hx
theorem Lst.live {e : TypeId} {sz cnt : Nat} {v : AVal} {xs : List AVal} (ho : Lst h e sz v cnt xs) (hf : Free h n) {j : Nat} (hj : ownId v = some j) : j < n := by
  cases ho with
  | nil => cases hj
  | sl id cnt cap cells xs hh hl hc hx =>
    injection hj with hj
    subst hj
    by_cases q : id < n
    · exact q
    · rw [hf id (by omega)] at hh; cases hh
theorem lst_new {e : TypeId} {sz cnt : Nat} {cap : Option Nat} {xs : List AVal} {id : Nat} (hh : h id = some (.row (.l xs) e)) (hl : xs.length = cnt * sz) (hc : ∀ k, cap = some k → k = cnt) : Lst h e sz (.sl id 0 cnt cap sz) cnt xs :=
  .sl id cnt cap xs xs hh (by omega) (fun k hk => by have := hc k hk; subst this; omega) (by rw [← hl, List.take_length])
theorem take_splice {xs ys : List AVal} {a : Nat} (h : a + ys.length ≤ xs.length) : (splice xs a ys).take (a + ys.length) = xs.take a ++ ys := by
  unfold splice
  rw [← List.append_assoc, List.take_append_of_le_length (by rw [List.length_append, List.length_take]; omega), List.take_of_length_le (by rw [List.length_append, List.length_take]; omega)]
theorem wp_rdb {α β : Type} {m : M α} {f : α → M β} {ids : List Nat} {a : α} {Q2 : β → Hp → Nat → Prop} (hr : Rd m h n ids a) (hw : Wp (f a) h n Q2) : Wp (m.bind f) h n Q2 :=
  wp_bind (wp_mono hr.wp fun a' h' n' ⟨e1, e2, e3⟩ => by subst e1; subst e2; subst e3; exact hw)
/-- append. -/
theorem wp_lst_append {Q1 : AVal → Hp → Nat → Prop} {t t2 e : TypeId} {i : TI} {s x : AVal} {cnt k : Nat} {xs ys : List AVal} (hs : Lst h e i.size s cnt xs) (hx : Rds h i.size x k ys)
    (ht : und E t = M.pure (.slice e)) (ht2 : und E t2 = M.pure (.slice e)) (hi : ti E e = M.pure i) (hy : ys.all oneCell = true) (hz : 0 < i.size)
    (hroom : 2 * (cnt + k) * i.bytes ≤ 281474976710656) (hroom2 : cnt + k ≤ 281474976710656) (hf : Free h n)
    (hq : ∀ v' h' n', n ≤ n' → Free h' n' → Lst h' e i.size v' (cnt + k) (xs ++ ys) → (ownId v' = ownId s ∨ ownId v' = some n ∧ n < n') → (∀ j, j < n → ownId s ≠ some j → h' j = h j) → Q1 v' h' n') :
    Wp (bAppend E [t, t2] s x) h n Q1 := by
  have hyl := hx.length
  simp only [bAppend, ht2, bind_pure, intB, append, ht, hi, hx.len, bind_assoc, wp_ask]
  by_cases hk : k = 0
  · subst hk
    have hy0 : ys = [] := List.eq_nil_of_length_eq_zero (by omega)
    subst hy0
    have key : Lst h e i.size s (cnt + 0) (xs ++ []) := by rw [List.append_nil]; exact hs
    have := hq s h n (Nat.le_refl _) hf key (.inl rfl) (fun _ _ _ => rfl)
    rw [Nat.beq_refl]
    cases hs <;> exact wp_pure.2 this
  have hk0 : k.beq 0 = false := beq_of hk
  have hkz : 0 < k * i.size := Nat.mul_pos (by omega) hz
  simp only [hk0]
  refine wp_rdb hx.cells ?_
  have r1 : ((2 * (cnt + k) * i.bytes).ble room && (cnt + k).ble room) = true := by
    unfold room
    rw [ble_of hroom, ble_of hroom2]; rfl
  have grow : ∀ h1 : Hp, (∀ j, n ≤ j → h1 j = none) → (∀ j, j < n → ownId s ≠ some j → h1 j = h j) → xs.length = cnt * i.size → Q1 (.sl n 0 (cnt + k) none i.size) (upd h1 n (some (.row (.l (xs ++ ys)) e))) (n + 1) := fun h1 hf1 ho1 hxl => by
    refine hq _ _ _ (by omega) (Free.new hf1) (lst_new (upd_same _ _ _) (by rw [List.length_append, hxl, hyl, Nat.add_mul]) (fun k hk => by cases hk)) (.inr ⟨rfl, by omega⟩) (fun j hj hn => ?_)
    rw [upd_ne _ _ (by omega)]; exact ho1 j hj hn
  cases hs with
  | nil =>
    rw [Nat.zero_add] at r1
    simp only [grown, wp_ob, wp_new, wp_pure, r1, true_and]
    have := grow h hf (fun _ _ _ => rfl) (by simp)
    simpa using this
  | sl id cnt cap cells xs hh hl hc hxs =>
    have hid : id < n := by
      by_cases q : id < n
      · exact q
      · rw [hf id (by omega)] at hh; cases hh
    have hxl : xs.length = cnt * i.size := by rw [← hxs, List.length_take]; omega
    have inplace : (cnt + k) * i.size ≤ cells.length → ∀ cap', (∀ j, cap' = some j → cnt + k ≤ j ∧ j * i.size ≤ cells.length) →
        Q1 (.sl id 0 (cnt + k) cap' i.size) (upd h id (some (.row (.l (splice cells (cnt * i.size) ys)) e))) n := fun hfit cap' hcap' => by
      rw [Nat.add_mul] at hfit
      have hsl := splice_len (xs := cells) (vs := ys) (off := cnt * i.size) (by omega)
      refine hq _ _ _ (Nat.le_refl _) (hf.upd hid) (.sl id (cnt + k) cap' _ _ (upd_same _ _ _) (by rw [hsl, Nat.add_mul]; omega) (fun j hj => by rw [hsl]; exact hcap' j hj) ?_) (.inl rfl) (fun j hj hn => upd_ne _ _ (fun q => hn (by rw [q]; rfl)))
      rw [Nat.add_mul, ← hyl, take_splice (by omega), hxs]
    have hwr : ∀ {β : Type} (f : Unit → M β) (Q2 : β → Hp → Nat → Prop), (cnt + k) * i.size ≤ cells.length → Wp (f ()) (upd h id (some (.row (.l (splice cells (cnt * i.size) ys)) e))) n Q2 → Wp ((writeCells (.ptr id (0 + cnt * i.size)) ys).bind f) h n Q2 := fun f Q2 hfit hw => by
      rw [Nat.add_mul] at hfit
      have hb : (cnt * i.size + ys.length).ble cells.length = true := ble_of (by omega)
      simp only [writeCells, Nat.zero_add, bind_assoc, wp_get, hh, Option.some.injEq, exists_eq_left', rowK, wp_ob, Cont.size, hb, hy, wp_set, true_and]
      rw [setAll_l _ _ _ (by omega)]
      exact ⟨by simp, hw⟩
    have hrd : ∀ {β : Type} (f : List AVal → M β) (Q2 : β → Hp → Nat → Prop), Wp (f xs) h n Q2 → Wp ((sliceCells i.size cnt (.sl id 0 cnt cap i.size)).bind f) h n Q2 := fun f Q2 hw => by
      have := (Lst.sl (e := e) (sz := i.size) id cnt cap cells xs hh hl hc hxs).rds.cells (n := n)
      exact wp_rdb this hw
    simp only [sameSz, Nat.beq_refl, wp_get, hh, Option.some.injEq, exists_eq_left', rowK]
    cases cap with
    | none =>
      simp only [wp_ask, Nat.zero_add, Cont.size]
      by_cases hfit : (cnt + k) * i.size ≤ cells.length
      · rw [ble_of hfit]
        simp only [wp_ob]
        refine ⟨Nat.ble_eq_true_of_le hz, ?_⟩
        have := hwr (fun _ => M.pure (AVal.sl id 0 (cnt + k) none i.size)) Q1 hfit (wp_pure.2 (inplace hfit none (fun j hj => by cases hj)))
        rwa [Nat.zero_add] at this
      · rw [blit_of hfit]
        simp only [hy, Nat.beq_refl, Bool.and_self]
        refine hrd _ _ ?_
        simp only [wp_kill, grown, wp_ob, wp_new, wp_pure, r1, true_and, hh]
        refine ⟨by simp, grow (upd h id none) (fun j hj => by rw [upd_ne _ _ (by omega)]; exact hf j hj) (fun j hj hn => upd_ne _ _ (fun q => hn (by rw [q]; rfl))) hxl⟩
    | some m =>
      simp only [wp_ask]
      obtain ⟨hc1, hc2⟩ := hc m rfl
      by_cases hfit : cnt + k ≤ m
      · have hfit2 : (cnt + k) * i.size ≤ cells.length := Nat.le_trans (Nat.mul_le_mul_right _ hfit) hc2
        rw [ble_of hfit]
        exact hwr _ _ hfit2 (wp_pure.2 (inplace hfit2 (some m) (fun j hj => by injection hj with hj; subst hj; exact ⟨hfit, hc2⟩)))
      · rw [blit_of hfit]
        refine hrd _ _ ?_
        simp only [grown, wp_ob, wp_new, wp_pure, r1, true_and]
        exact grow h hf (fun _ _ _ => rfl) hxl
theorem opv_lst_append {t t2 e : TypeId} {i : TI} {s x : AVal} {cnt k : Nat} {xs ys : List AVal} (hs : Lst h e i.size s cnt xs) (hx : Rds h i.size x k ys)
    (ht : und E t = M.pure (.slice e)) (ht2 : und E t2 = M.pure (.slice e)) (hi : ti E e = M.pure i) (hy : ys.all oneCell = true) (hz : 0 < i.size)
    (hroom : 2 * (cnt + k) * i.bytes ≤ 281474976710656) (hroom2 : cnt + k ≤ 281474976710656) (hf : Free h n)
    (hq : ∀ v' h' n', n ≤ n' → Free h' n' → Lst h' e i.size v' (cnt + k) (xs ++ ys) → (ownId v' = ownId s ∨ ownId v' = some n ∧ n < n') → (∀ j, j < n → ownId s ≠ some j → h' j = h j) → Ops E fn rnd Q ks ops rest (putT tm d v') h' n') :
    OpV E fn rnd Q ks ops rest d tm (bAppend E [t, t2] s x) h n := wp_lst_append hs hx ht ht2 hi hy hz hroom hroom2 hf hq
/-! ### Parts of slices -/
theorem get_part {xs : List AVal} {a b j : Nat} (hj : j < ((xs.drop a).take b).length) : ((xs.drop a).take b)[j] = xs[a + j]'(by rw [List.length_take, List.length_drop] at hj; omega) := by simp
theorem Rds.sub {sz cnt : Nat} {v : AVal} {xs : List AVal} (hr : Rds h sz v cnt xs) {lo hi : Nat} (h1 : lo ≤ hi) (h2 : hi ≤ cnt) : Rds h sz (subOf lo hi v) (hi - lo) ((xs.drop (lo * sz)).take ((hi - lo) * sz)) := by
  have hl := hr.length
  have hm : lo * sz + (hi - lo) * sz ≤ cnt * sz := by rw [← Nat.add_mul]; exact Nat.mul_le_mul_right _ (by omega)
  have hlen : ((xs.drop (lo * sz)).take ((hi - lo) * sz)).length = (hi - lo) * sz := by rw [List.length_take, List.length_drop]; omega
  cases hr with
  | nils =>
    have e1 : hi = 0 := by omega
    have e2 : lo = 0 := by omega
    subst e1; subst e2
    simpa [subOf] using Rds.nils
  | emp =>
    have e1 : hi = 0 := by omega
    have e2 : lo = 0 := by omega
    subst e1; subst e2
    simpa [subOf] using Rds.emp
  | isl f off cnt xs hl2 hf => exact .isl f _ _ _ hlen (fun j hj => by rw [get_part hj, Nat.add_assoc]; exact hf _ _)
  | sl id off cnt cap c e xs hh hl2 hs hc => exact .sl id _ _ _ c e _ hh hlen (by omega) (fun j hj => by rw [get_part hj, Nat.add_assoc]; exact hc _ _)
theorem Rds.slice_rd {sz cnt : Nat} {v : AVal} {xs : List AVal} (hr : Rds h sz v cnt xs) (ho : Roomy v) {t e : TypeId} (ht : und E t = M.pure (.slice e)) (he : sizeOf E e = M.pure sz) {k1 k2 : IntKind} {lo hi : Nat} {z1 z2 : Int} (e1 : z1 = (lo : Nat)) (e2 : z2 = (hi : Nat)) (h1 : lo ≤ hi) (h2 : hi ≤ cnt) {n' : Nat} {h' : Hp} :
    Rd (slice E t v (some (.int k1 z1)) (some (.int k2 z2)) none) h' n' [] (subOf lo hi v) := by
  subst e1; subst e2
  cases hr with
  | nils =>
    have e1 : hi = 0 := by omega
    have e2 : lo = 0 := by omega
    subst e1; subst e2
    simp only [slice, ht, he, bind_pure, bound, intK, bind_assoc]
    exact Rd.bind (i2 := []) (Rd.ob (by simp)) (Rd.bind (i2 := []) (Rd.ob (by simp)) (Rd.pure _))
  | emp =>
    have e1 : hi = 0 := by omega
    have e2 : lo = 0 := by omega
    subst e1; subst e2
    simp only [slice, ht, he, bind_pure, bound, intK, bind_assoc]
    exact Rd.bind (i2 := []) (Rd.ob (by simp)) (Rd.bind (i2 := []) (Rd.ob (by simp)) (Rd.pure _))
  | isl f off cnt xs hl hf =>
    simp only [slice, ht, he, bind_pure, bound, intK, bind_assoc, sameSz, Nat.beq_refl]
    exact Rd.bind (i2 := []) (Rd.ob (by simp; omega)) (Rd.bind (i2 := []) (Rd.ob (by simp; omega)) (Rd.pure _))
  | sl id off cnt cap c e xs hh hl hs hc =>
    cases cap with
    | none =>
      have hle : ((hi : Nat) : Int) ≤ ((cnt : Nat) : Int) := by omega
      simp only [slice, roomOf, decide_eq_true hle, ht, he, bind_pure, bound, intK, bind_assoc, sameSz, Nat.beq_refl]
      exact Rd.bind (i2 := []) (Rd.ob (by simp; omega)) (Rd.bind (i2 := []) (Rd.ob (by simp; omega)) (Rd.pure _))
    | some cc =>
      have hcc : cnt ≤ cc := ho
      simp only [slice, roomOf, ht, he, bind_pure, bound, intK, bind_assoc, sameSz, Nat.beq_refl]
      exact Rd.bind (i2 := []) (Rd.ob (by simp; omega)) (Rd.bind (i2 := []) (Rd.ob (by simp; omega)) (Rd.pure _))
theorem Rds.head_rd {sz cnt : Nat} {v : AVal} {xs : List AVal} (hr : Rds h sz v cnt xs) (ho : Roomy v) {t e : TypeId} (ht : und E t = M.pure (.slice e)) (he : sizeOf E e = M.pure sz) {k2 : IntKind} {hi : Nat} {z2 : Int} (e2 : z2 = (hi : Nat)) (h2 : hi ≤ cnt) {n' : Nat} {h' : Hp} :
    Rd (slice E t v none (some (.int k2 z2)) none) h' n' [] (subOf 0 hi v) := by
  subst e2
  cases hr with
  | nils =>
    have e1 : hi = 0 := by omega
    subst e1
    simp only [slice, ht, he, bind_pure, bound, intK, bind_assoc]
    exact Rd.bind (i2 := []) (Rd.ob (by simp)) (Rd.pure _)
  | emp =>
    have e1 : hi = 0 := by omega
    subst e1
    simp only [slice, ht, he, bind_pure, bound, intK, bind_assoc]
    exact Rd.bind (i2 := []) (Rd.ob (by simp)) (Rd.pure _)
  | isl f off cnt xs hl hf =>
    simp only [slice, ht, he, bind_pure, bound, intK, bind_assoc, sameSz, Nat.beq_refl]
    exact Rd.bind (i2 := []) (Rd.ob (by simp; omega)) (Rd.pure _)
  | sl id off cnt cap c e xs hh hl hs hc =>
    cases cap with
    | none =>
      have hle : ((hi : Nat) : Int) ≤ ((cnt : Nat) : Int) := by omega
      simp only [slice, roomOf, decide_eq_true hle, ht, he, bind_pure, bound, intK, bind_assoc, sameSz, Nat.beq_refl]
      exact Rd.bind (i2 := []) (Rd.ob (by simp; omega)) (Rd.pure _)
    | some cc =>
      have hcc : cnt ≤ cc := ho
      simp only [slice, roomOf, ht, he, bind_pure, bound, intK, bind_assoc, sameSz, Nat.beq_refl]
      exact Rd.bind (i2 := []) (Rd.ob (by simp; omega)) (Rd.pure _)
theorem Rds.tail_rd {sz cnt : Nat} {v : AVal} {xs : List AVal} (hr : Rds h sz v cnt xs) {t e : TypeId} (ht : und E t = M.pure (.slice e)) (he : sizeOf E e = M.pure sz) {k1 : IntKind} {lo : Nat} {z1 : Int} (e1 : z1 = (lo : Nat)) (h2 : lo ≤ cnt) {n' : Nat} {h' : Hp} :
    Rd (slice E t v (some (.int k1 z1)) none none) h' n' [] (subOf lo cnt v) := by
  subst e1
  cases hr with
  | nils =>
    have e2 : lo = 0 := by omega
    subst e2
    simp only [slice, ht, he, bind_pure, bound, intK, bind_assoc]
    exact Rd.bind (i2 := []) (Rd.ob (by simp)) (Rd.pure _)
  | emp =>
    have e2 : lo = 0 := by omega
    subst e2
    simp only [slice, ht, he, bind_pure, bound, intK, bind_assoc]
    exact Rd.bind (i2 := []) (Rd.ob (by simp)) (Rd.pure _)
  | isl f off cnt xs hl hf =>
    simp only [slice, ht, he, bind_pure, bound, intK, bind_assoc, sameSz, Nat.beq_refl]
    exact Rd.bind (i2 := []) (Rd.ob (by simp; omega)) (Rd.pure _)
  | sl id off cnt cap c e xs hh hl hs hc =>
    cases cap with
    | none =>
      simp only [slice, roomOf, ht, he, bind_pure, bound, intK, bind_assoc, sameSz, Nat.beq_refl]
      exact Rd.bind (i2 := []) (Rd.ob (by simp; omega)) (Rd.pure _)
    | some cc =>
      simp only [slice, roomOf, ht, he, bind_pure, bound, intK, bind_assoc, sameSz, Nat.beq_refl]
      exact Rd.bind (i2 := []) (Rd.ob (by simp; omega)) (Rd.pure _)
theorem Lst.roomy {e : TypeId} {sz cnt : Nat} {v : AVal} {xs : List AVal} (ho : Lst h e sz v cnt xs) : Roomy v := by
  cases ho with
  | nil => trivial
  | sl id cnt cap cells xs hh hl hc hx =>
    cases cap with
    | none => trivial
    | some c => exact (hc c rfl).1
theorem Lst.pre {e : TypeId} {sz cnt : Nat} {v : AVal} {xs : List AVal} (ho : Lst h e sz v cnt xs) {hi : Nat} (h2 : hi ≤ cnt) : Lst h e sz (subOf 0 hi v) hi (xs.take (hi * sz)) := by
  cases ho with
  | nil =>
    have : hi = 0 := by omega
    subst this
    simpa [subOf] using Lst.nil
  | sl id cnt cap cells xs hh hl hc hx =>
    have hm := Nat.mul_le_mul_right sz h2
    have xe : cells.take (hi * sz) = xs.take (hi * sz) := by rw [← hx, List.take_take, Nat.min_eq_left hm]
    cases cap with
    | none =>
      simp only [subOf, Nat.zero_mul, Nat.add_zero, Nat.sub_zero]
      exact .sl id hi none cells _ hh (by omega) (fun k hk => by cases hk) xe
    | some c =>
      simp only [subOf, Nat.zero_mul, Nat.add_zero, Nat.sub_zero]
      have := hc c rfl
      exact .sl id hi (some c) cells _ hh (by omega) (fun k hk => by injection hk with hk; subst hk; exact ⟨by omega, this.2⟩) xe
/-- v[:a:a]. -/
def cutOf (a : Nat) : AVal → AVal
  | .sl id off _ _ sz => .sl id off a (some a) sz
  | v => v
theorem Lst.cut_rd {sz cnt : Nat} {v : AVal} {xs : List AVal} {e : TypeId} (hr : Lst h e sz v cnt xs) {t : TypeId} (ht : und E t = M.pure (.slice e)) (he : sizeOf E e = M.pure sz) {k1 k2 : IntKind} {a : Nat} {z1 : Int} (e1 : z1 = (a : Nat)) (h2 : a ≤ cnt) {n' : Nat} {h' : Hp} :
    Rd (slice E t v none (some (.int k1 z1)) (some (.int k2 z1))) h' n' [] (cutOf a v) := by
  subst e1
  have ro := hr.roomy
  cases hr with
  | nil =>
    have e2 : a = 0 := by omega
    subst e2
    simp only [slice, ht, he, bind_pure, bound, intK, bind_assoc]
    exact Rd.bind (i2 := []) (Rd.ob (by simp)) (Rd.bind (i2 := []) (Rd.ob (by simp)) (Rd.pure _))
  | sl id cnt cap cells xs hh hl hc hx =>
    have hb : ((a : Nat) : Int) ≤ ((cap.getD cnt : Nat) : Int) := by
      cases cap with
      | none => simp only [Option.getD_none]; omega
      | some c => have := (hc c rfl).1; simp only [Option.getD_some]; omega
    simp only [slice, ht, he, bind_pure, bound, intK, bind_assoc, sameSz, Nat.beq_refl, Nat.zero_mul, Nat.add_zero, Nat.sub_zero, Int.toNat_natCast]
    exact Rd.bind (i2 := []) (Rd.ob (decide_eq_true ⟨by omega, hb⟩)) (Rd.bind (i2 := []) (Rd.ob (decide_eq_true ⟨by omega, by omega⟩)) (Rd.pure _))
theorem Lst.cut {e : TypeId} {sz cnt : Nat} {v : AVal} {xs : List AVal} (ho : Lst h e sz v cnt xs) {a : Nat} (h2 : a ≤ cnt) : Lst h e sz (cutOf a v) a (xs.take (a * sz)) := by
  cases ho with
  | nil =>
    have : a = 0 := by omega
    subst this
    simpa [subOf, cutOf] using Lst.nil
  | sl id cnt cap cells xs hh hl hc hx =>
    have hm := Nat.mul_le_mul_right sz h2
    exact .sl id a _ cells _ hh (by omega) (fun k hk => by injection hk with hk; subst hk; exact ⟨Nat.le_refl _, by omega⟩) (by rw [← hx, List.take_take, Nat.min_eq_left hm])
theorem cut_id (a : Nat) (v : AVal) : ownId (cutOf a v) = ownId v := by cases v <;> rfl
theorem sl_nil {v : AVal} {b : Bool} (hv : nilSl v = M.pure b) {t e : TypeId} (ht : und E t = M.pure (.slice e)) : equalTop E t v .nils = M.pure b := by
  unfold equalTop equal
  rw [ht, bind_pure]
  simp only
  rw [hv, bind_pure, nilSl1, bind_pure, Bool.or_true, Bool.and_true]
theorem Lst.eqNil {e : TypeId} {sz cnt : Nat} {v : AVal} {xs : List AVal} (ho : Lst h e sz v cnt xs) {t : TypeId} (ht : und E t = M.pure (.slice e)) : binOp E .eql t v .nils = M.pure (.bool (isNils v)) ∧ (isNils v = true → v = .nils ∧ cnt = 0 ∧ xs = []) := by
  cases ho with
  | nil =>
    refine ⟨?_, fun _ => ⟨rfl, rfl, rfl⟩⟩
    show binOther E .eql t .nils .nils = _
    unfold binOther
    simp only
    rw [sl_nil nilSl1 ht]; rfl
  | sl id cnt cap cells xs hh hl hc hx =>
    refine ⟨?_, fun q => by cases q⟩
    show binOther E .eql t (.sl id 0 cnt cap sz) .nils = _
    unfold binOther
    simp only
    rw [sl_nil (nilSl2 _ _ _ _ _) ht]; rfl
theorem wp_yield {id : Nat} {args : List AVal} {l : ALoop} {Q1 : AVal → Hp → Nat → Prop} (hl : h id = some (.loop l)) (hs : l.state = .ready) (ha : args.length.beq l.params.length = true)
    (hw : Run E l.fn (some id) (fun e tm1 h1 n1 => e = .normal ∧ ∃ l2, h1 id = some (.loop l2) ∧ l2.state = .ready ∧
      Run E l.fn (some id) (fun e2 tm2 h2 n2 => ∃ l3, h2 id = some (.loop l3) ∧
        Q1 (.blit (normB e2)) (Go.Am.upd h2 id (some (.loop { l3 with state := (match normB e2 with | true => .ready | false => .done), pending := jumpOf e2 }))) n2)
        l.body [] tm1 (Go.Am.upd h1 id (some (.loop { l2 with state := .busy }))) n1) l.assign [] (putAll l.tmps (l.params.zip args)) h n) :
    Wp (callV E (evalW E) (.fn (.yield id) [] []) args) h n Q1 := by
  simp only [callV, yieldTo]
  refine wp_get.2 ⟨_, hl, ?_⟩
  simp only [loopK, ha, hs, wp_bind_iff]
  refine wp_mono hw fun r h1 n1 hr => ?_
  obtain ⟨e, tm1⟩ := r
  obtain ⟨he, l2, hl2, hs2, hb⟩ := hr
  subst he
  refine wp_get.2 ⟨_, hl2, ?_⟩
  simp only [loopK, hs2]
  refine wp_set.2 ⟨by rw [hl2]; simp, ?_⟩
  refine wp_bind_iff.2 (wp_mono hb fun r2 h2 n2 hr2 => ?_)
  obtain ⟨e2, tm2⟩ := r2
  obtain ⟨l3, hl3, hq⟩ := hr2
  refine wp_get.2 ⟨_, hl3, ?_⟩
  simp only [loopK]
  refine wp_set.2 ⟨by rw [hl3]; simp, ?_⟩
  exact wp_pure.2 hq
/-- A new row in a region that draws. -/
theorem fev_row {j : Nat} {fs : List Foot} {t : TypeId} {i : TI} (hi : ti E t = M.pure i) {xs : List AVal} {f : Nat → AVal} (hf : Free h n)
    (hq : ∀ H r w, H n = some (.row (.l xs) t) → (∀ k, k ≠ n → H k = h k) → Free H (n + 1) → Fe E fn rnd Q ks ops (j + 1) rest (putT tm d (f n)) (⟨j, r, w, n, n + 1⟩ :: fs) H (n + 1)) :
    FeV E fn rnd Q ks ops j rest d tm fs ((newRow E t xs).bind fun id => M.pure (f id)) h n := by
  refine fev_any hf (Q1 := fun v' h' n' => v' = f n ∧ h' = Go.Am.upd h n (some (.row (.l xs) t)) ∧ n' = n + 1) ?_ fun v' h' n' r w hn hf' hh => ?_
  · simp only [newRow, hi, bind_pure, wp_new, wp_pure, bind_assoc, and_self]
  · obtain ⟨rfl, rfl, rfl⟩ := hh
    exact hq _ r w (upd_same _ _ _) (fun k hk => upd_ne _ _ hk) hf'
theorem opv_row {t : TypeId} {i : TI} (hi : ti E t = M.pure i) {xs : List AVal} {f : Nat → AVal} (hf : Free h n)
    (hq : ∀ H, H n = some (.row (.l xs) t) → (∀ k, k ≠ n → H k = h k) → Free H (n + 1) → Ops E fn rnd Q ks ops rest (putT tm d (f n)) H (n + 1)) :
    OpV E fn rnd Q ks ops rest d tm ((newRow E t xs).bind fun id => M.pure (f id)) h n := by
  simp only [newRow, hi, bind_pure, opv_new, opv_pure, bind_assoc]
  exact hq _ (upd_same _ _ _) (fun k hk => upd_ne _ _ hk) hf.new
theorem row_rds {sz cnt id : Nat} {cap : Option Nat} {xs : List AVal} {e : TypeId} (hh : h id = some (.row (.l xs) e)) (hl : xs.length = cnt * sz) : Rds h sz (.sl id 0 cnt cap sz) cnt xs :=
  .sl id 0 cnt cap (.l xs) e xs hh hl (by show 0 + xs.length ≤ xs.length; omega) (fun j hj => by rw [Nat.zero_add, Cont.at_l hj])
theorem upd_self {h : Hp} {id : Nat} {b : Option Blk} (e : h id = b) : Go.Am.upd h id b = h := funext fun j => by
  by_cases q : j = id
  · subst q; rw [upd_same, e]
  · rw [upd_ne _ _ q]
/-- append where there is room. -/
theorem wp_append_in {Q1 : AVal → Hp → Nat → Prop} {t t2 e e' : TypeId} {i : TI} {x : AVal} {id cnt k : Nat} {cap : Option Nat} {cells ys : List AVal} (hh : h id = some (.row (.l cells) e')) (hx : Rds h i.size x k ys)
    (ht : und E t = M.pure (.slice e)) (ht2 : und E t2 = M.pure (.slice e)) (hi : ti E e = M.pure i) (hy : ys.all oneCell = true) (hz : 0 < i.size)
    (hfit : (cnt + k) * i.size ≤ cells.length) (hcap : ∀ m, cap = some m → cnt + k ≤ m)
    (hq : Q1 (.sl id 0 (cnt + k) cap i.size) (Go.Am.upd h id (some (.row (.l (splice cells (cnt * i.size) ys)) e'))) n) :
    Wp (bAppend E [t, t2] (.sl id 0 cnt cap i.size) x) h n Q1 := by
  have hyl := hx.length
  simp only [bAppend, ht2, bind_pure, intB, append, ht, hi, hx.len, bind_assoc, wp_ask]
  by_cases hk : k = 0
  · subst hk
    have hy0 : ys = [] := List.eq_nil_of_length_eq_zero (by omega)
    subst hy0
    have hs : splice cells (cnt * i.size) [] = cells := by unfold splice; simp
    rw [hs, upd_self hh, Nat.add_zero] at hq
    simp only [Nat.beq_refl]
    exact wp_pure.2 hq
  simp only [beq_of hk]
  refine wp_rdb hx.cells ?_
  have hwr : ∀ {β : Type} (f : Unit → M β) (Q2 : β → Hp → Nat → Prop), Wp (f ()) (Go.Am.upd h id (some (.row (.l (splice cells (cnt * i.size) ys)) e'))) n Q2 → Wp ((writeCells (.ptr id (0 + cnt * i.size)) ys).bind f) h n Q2 := fun f Q2 hw => by
    rw [Nat.add_mul] at hfit
    have hb : (cnt * i.size + ys.length).ble cells.length = true := ble_of (by omega)
    simp only [writeCells, Nat.zero_add, bind_assoc, wp_get, hh, Option.some.injEq, exists_eq_left', rowK, wp_ob, Cont.size, hb, hy, wp_set, true_and]
    rw [setAll_l _ _ _ (by omega)]
    exact ⟨by simp, hw⟩
  simp only [sameSz, Nat.beq_refl, wp_get, hh, Option.some.injEq, exists_eq_left', rowK]
  cases cap with
  | none =>
    simp only [wp_ask, Nat.zero_add, Cont.size, ble_of hfit, wp_ob]
    refine ⟨Nat.ble_eq_true_of_le hz, ?_⟩
    have := hwr (fun _ => M.pure (AVal.sl id 0 (cnt + k) none i.size)) Q1 (wp_pure.2 hq)
    rwa [Nat.zero_add] at this
  | some m =>
    simp only [wp_ask, ble_of (hcap m rfl)]
    exact hwr _ _ (wp_pure.2 hq)
theorem Lst.inv {e : TypeId} {sz cnt : Nat} {v : AVal} {xs : List AVal} (ho : Lst h e sz v cnt xs) (hc : 0 < cnt) : ∃ id cap cells, v = .sl id 0 cnt cap sz ∧ h id = some (.row (.l cells) e) ∧ cnt * sz ≤ cells.length ∧ (∀ k, cap = some k → cnt ≤ k ∧ k * sz ≤ cells.length) ∧ cells.take (cnt * sz) = xs := by
  cases ho with
  | nil => omega
  | sl id cnt cap cells xs hh hl hc hx => exact ⟨id, cap, cells, rfl, hh, hl, hc, hx⟩
theorem fev_box {j : Nat} {fs : List Foot} {t : TypeId} {i : TI} {v : AVal} (hi : ti E t = M.pure i) (hv : isJunk v = false) (hf : Free h n)
    (hq : ∀ H r w, H n = some (.row (.l v.cells) t) → (∀ k, k ≠ n → H k = h k) → Free H (n + 1) → Fe E fn rnd Q ks ops (j + 1) rest (putT tm d (.ptr n 0)) (⟨j, r, w, n, n + 1⟩ :: fs) H (n + 1)) :
    FeV E fn rnd Q ks ops j rest d tm fs (alloc E t v) h n := by
  simp only [alloc, hv]
  exact fev_row hi hf hq
theorem fev_row' {j : Nat} {fs : List Foot} {t : TypeId} {i : TI} (hi : ti E t = M.pure i) {xs : List AVal} {f : Nat → AVal} (hf : Free h n)
    (hq : ∀ H, H n = some (.row (.l xs) t) → (∀ k, k ≠ n → H k = h k) → Free H (n + 1) → Fe E fn rnd Q ks ops (j + 1) rest (putT tm d (f n)) (⟨j, [], [], n, n + 1⟩ :: fs) H (n + 1)) :
    FeV E fn rnd Q ks ops j rest d tm fs ((newRow E t xs).bind fun id => M.pure (f id)) h n := by
  have key : ∀ H : Hp, Wp ((newRow E t xs).bind fun id => M.pure (f id)) H n fun v' h' n' => v' = f n ∧ h' = Go.Am.upd H n (some (.row (.l xs) t)) ∧ n' = n + 1 := fun H => by
    simp only [newRow, hi, bind_pure, wp_new, wp_pure, bind_assoc, and_self]
  refine fev_free hf (key _) (key _) fun v' h' n' hn hf' hh => ?_
  obtain ⟨rfl, rfl, rfl⟩ := hh
  exact hq _ (upd_same _ _ _) (fun k hk => upd_ne _ _ hk) hf'
theorem hits_out {x : List Nat} {f : Foot} (h : ∀ id, id ∈ x → id < f.lo ∨ f.hi ≤ id) : hits x f = false := by
  unfold hits
  cases f.lo.beq f.hi with
  | true => rfl
  | false =>
    simp only
    rw [List.any_eq_false]
    intro y hy
    unfold within
    rcases h y hy with q | q
    · rw [blit_of (by omega)]; simp
    · rw [show y.blt f.hi = false from blit_of (by omega)]; simp
theorem clash_ns {i j a b c e : Nat} {r w : List Nat} (hr : ∀ id, id ∈ r → id < a ∨ b ≤ id) (hw : ∀ id, id ∈ w → id < a ∨ b ≤ id) : clash ⟨i, [], [], a, b⟩ ⟨j, r, w, c, e⟩ = false := by
  unfold clash
  simp only [meets_nil, hits_nil, Bool.false_or]
  rw [hits_out (f := ⟨i, [], [], a, b⟩) hr, hits_out (f := ⟨i, [], [], a, b⟩) hw]; rfl
theorem clash_sn {i j a b c e : Nat} {r w : List Nat} (hr : ∀ id, id ∈ r → id < a ∨ b ≤ id) (hw : ∀ id, id ∈ w → id < a ∨ b ≤ id) : clash ⟨j, r, w, c, e⟩ ⟨i, [], [], a, b⟩ = false := by
  unfold clash
  simp only [meets_nil', hits_nil, Bool.false_or, Bool.or_false]
  rw [hits_out (f := ⟨i, [], [], a, b⟩) hr, hits_out (f := ⟨i, [], [], a, b⟩) hw]; rfl
end Go.Am
