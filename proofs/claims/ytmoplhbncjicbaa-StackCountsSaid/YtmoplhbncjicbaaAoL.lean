/- Numbers of four words; rows of numbers that are written. -/
import Derived.Test.YtmoplhbncjicbaaAoK
set_option linter.unusedSimpArgs false
set_option linter.unusedVariables false
set_option linter.defProp false
namespace Go.Am
open Go Go.RowKit
variable {E : Env} {fn : FuncId} {rnd : Option Nat} {Q : Post0} {ks : List Kf} {tm : List AVal} {h : Hp} {n : Nat} {ops rest : List Oper} {d : Option Tmp}
/-- The i-th word. -/
def wd (n i : Nat) : Nat := n / 2 ^ (64 * i) % 18446744073709551616
def b256 : Nat := 115792089237316195423570985008687907853269984665640564039457584007913129639936
/-- Four words' value. -/
def of4 (a b c d : Nat) : Nat := a + b * 18446744073709551616 + c * 340282366920938463463374607431768211456 + d * 6277101735386680763835789423207666416102355444464034512896
theorem wd_lt (n i : Nat) : wd n i < 18446744073709551616 := Nat.mod_lt _ (by decide)
theorem wd_of4 {a b c d : Nat} (ha : a < 18446744073709551616) (hb : b < 18446744073709551616) (hc : c < 18446744073709551616) (hd : d < 18446744073709551616) :
    wd (of4 a b c d) 0 = a ∧ wd (of4 a b c d) 1 = b ∧ wd (of4 a b c d) 2 = c ∧ wd (of4 a b c d) 3 = d := by
  unfold wd of4
  refine ⟨by omega, by omega, by omega, by omega⟩
theorem of4_wd {n : Nat} (h : n < b256) : of4 (wd n 0) (wd n 1) (wd n 2) (wd n 3) = n := by
  unfold b256 at h
  unfold wd of4
  omega
theorem of4_lt {a b c d : Nat} (ha : a < 18446744073709551616) (hb : b < 18446744073709551616) (hc : c < 18446744073709551616) (hd : d < 18446744073709551616) : of4 a b c d < b256 := by
  unfold of4 b256
  omega
abbrev w64A (n : Nat) : AVal := .int .u64 (n : Int)
/-- A number of four words. -/
def W (n : Nat) : AVal := .agg [.int .u64 (wd n 0 : Nat), .int .u64 (wd n 1 : Nat), .int .u64 (wd n 2 : Nat), .int .u64 (wd n 3 : Nat)]
theorem W_of4 {a b c d : Nat} (ha : a < 18446744073709551616) (hb : b < 18446744073709551616) (hc : c < 18446744073709551616) (hd : d < 18446744073709551616) : W (of4 a b c d) = .agg [.int .u64 (a : Nat), .int .u64 (b : Nat), .int .u64 (c : Nat), .int .u64 (d : Nat)] := by
  obtain ⟨h0, h1, h2, h3⟩ := wd_of4 ha hb hc hd
  unfold W
  rw [h0, h1, h2, h3]
theorem W_eq {n a b c d : Nat} (hn : n = of4 a b c d) (ha : a < 18446744073709551616) (hb : b < 18446744073709551616) (hc : c < 18446744073709551616) (hd : d < 18446744073709551616) : AVal.agg [.int .u64 (a : Nat), .int .u64 (b : Nat), .int .u64 (c : Nat), .int .u64 (d : Nat)] = W n := by
  rw [hn, W_of4 ha hb hc hd]
theorem wd_inj {a b : Nat} (ha : a < b256) (hb : b < b256) (h0 : wd a 0 = wd b 0) (h1 : wd a 1 = wd b 1) (h2 : wd a 2 = wd b 2) (h3 : wd a 3 = wd b 3) : a = b := by
  rw [← of4_wd ha, ← of4_wd hb, h0, h1, h2, h3]
/-- Sums of words. -/
theorem add_words (a0 a1 a2 a3 b0 b1 b2 b3 : Nat) :
    of4 ((a0 + b0 + 0) % 18446744073709551616) ((a1 + b1 + (a0 + b0 + 0) / 18446744073709551616) % 18446744073709551616) ((a2 + b2 + (a1 + b1 + (a0 + b0 + 0) / 18446744073709551616) / 18446744073709551616) % 18446744073709551616) ((a3 + b3 + (a2 + b2 + (a1 + b1 + (a0 + b0 + 0) / 18446744073709551616) / 18446744073709551616) / 18446744073709551616) % 18446744073709551616)
      + ((a3 + b3 + (a2 + b2 + (a1 + b1 + (a0 + b0 + 0) / 18446744073709551616) / 18446744073709551616) / 18446744073709551616) / 18446744073709551616) * b256
    = of4 a0 a1 a2 a3 + of4 b0 b1 b2 b3 := by
  unfold of4 b256
  omega
/-! ### Rows that are written -/
/-- A row of numbers that is written, by what stands in it. -/
def Ints (k : IntKind) (h : Hp) (v : AVal) (id m : Nat) (f : Nat → Int) : Prop := (∃ cap, v = .sl id 0 m cap 1) ∧ ∃ c e, h id = some (.row c e) ∧ c.size = m ∧ ∀ j, j < m → c.at j = .int k (f j)
theorem Ints.ext {k : IntKind} {v : AVal} {id m : Nat} {f g : Nat → Int} (hi : Ints k h v id m f) (hfg : ∀ j, j < m → f j = g j) : Ints k h v id m g := by
  obtain ⟨a, c, e, b1, b2, b3⟩ := hi
  exact ⟨a, c, e, b1, b2, fun j hj => by rw [b3 j hj, hfg j hj]⟩
theorem Ints.keep {k : IntKind} {v : AVal} {id m : Nat} {f : Nat → Int} {h' : Hp} (hi : Ints k h v id m f) (hk : h' id = h id) : Ints k h' v id m f := by
  obtain ⟨a, c, e, b1, b2, b3⟩ := hi
  exact ⟨a, c, e, hk.trans b1, b2, b3⟩
theorem Ints.len {k : IntKind} {v : AVal} {id m : Nat} {f : Nat → Int} (hi : Ints k h v id m f) {t e : TypeId} {ts : List TypeId} (ht : und E t = M.pure (.slice e)) : bLen E (t :: ts) v = M.pure (.int .i64 (m : Nat)) := by
  obtain ⟨⟨cap, rfl⟩, _⟩ := hi
  simp only [bLen, ht, bind_pure, lenOf]
theorem Ints.idx {k : IntKind} {v : AVal} {id m : Nat} {f : Nat → Int} (hi : Ints k h v id m f) {t e : TypeId} (ht : und E t = M.pure (.slice e)) (he : sizeOf E e = M.pure 1) {kk : IntKind} {z : Int} {j : Nat} (hz : z = (j : Nat)) (hj : j < m) {h' : Hp} {n' : Nat} : Rd (indexAddr E t v (.int kk z)) h' n' [] (.ptr id j) := by
  obtain ⟨⟨cap, rfl⟩, _⟩ := hi
  subst hz
  simp only [indexAddr, ht, he, bind_pure, intK, slK, Go.Am.idx, bind_assoc, Nat.beq_refl, Int.toNat_natCast, Nat.zero_add, Nat.mul_one]
  exact Rd.bind (i2 := []) (Rd.ob (by simp; omega)) (Rd.pure _)
theorem Ints.load {k : IntKind} {v : AVal} {id m : Nat} {f : Nat → Int} (hi : Ints k h v id m f) {e : TypeId} {i : TI} (he : ti E e = M.pure i) (ha : aggB i.desc = false) {j : Nat} (hj : j < m) : Rd (load E e (.ptr id j)) h n [id] (.int k (f j)) := by
  obtain ⟨_, c, e', b1, b2, b3⟩ := hi
  simp only [Go.Am.load, he, bind_pure, ha, readCells, bind_assoc]
  refine Rd.bind (i2 := []) (Rd.get b1) ?_
  simp only [rowK, bind_assoc]
  refine Rd.bind (i2 := []) (Rd.ob (ble_of (by omega))) ?_
  rw [Cont.sub_one (by omega), b3 j hj]
  exact Rd.pure _
theorem put_nth (xs : List AVal) (v : AVal) : ∀ (i j : Nat), i < xs.length → nth (put xs i v) j .junk = if j = i then v else nth xs j .junk := by
  induction xs with
  | nil => intro i j h; cases h
  | cons a xs ih =>
    intro i j h
    cases i with
    | zero => cases j <;> simp [put, nth]
    | succ i =>
      cases j with
      | zero => simp [put, nth]
      | succ j => simp only [put, nth, ih i j (by simpa using h)]; simp
theorem cont_at_set (c : Cont) (i j : Nat) (v : AVal) (h : i < c.size) : (c.set i v).at j = if j = i then v else c.at j := by
  cases c with
  | l xs => exact put_nth xs v i j h
  | f n g =>
    simp only [Cont.set, Cont.at]
    by_cases e : j = i
    · subst e; simp
    · rw [beq_of e, if_neg e]
theorem put_len (xs : List AVal) (v : AVal) : ∀ i, (put xs i v).length = xs.length := by
  induction xs with
  | nil => intro i; rfl
  | cons a xs ih => intro i; cases i <;> simp [put, ih]
theorem cont_size_set (c : Cont) (i : Nat) (v : AVal) : (c.set i v).size = c.size := by
  cases c with
  | l xs => exact put_len xs v i
  | f n g => rfl
/-- A number is written. -/
theorem Ints.store {k : IntKind} {v : AVal} {id m : Nat} {f : Nat → Int} (hi : Ints k h v id m f) {e : TypeId} {i : TI} (he : ti E e = M.pure i) (hs : i.size = 1) {j : Nat} (hj : j < m) {z : Int}
    (hq : ∀ b, Ints k (upd h id (some b)) v id m (fun x => if x = j then z else f x) → Ops E fn rnd Q ks ops rest (putT tm d undef) (upd h id (some b)) n) :
    OpV E fn rnd Q ks ops rest d tm (doStore E e (.ptr id j) (.int k z)) h n := by
  obtain ⟨a, c, e', b1, b2, b3⟩ := hi
  simp only [doStore, Go.Am.store, he, bind_pure, AVal.cells, hs, List.length_singleton, show Nat.beq 1 1 = true from rfl, writeCells, bind_assoc, OpV, wp_get, b1, Option.some.injEq, exists_eq_left', rowK, wp_ob, List.all_cons, List.all_nil, oneCell, Bool.and_true, wp_set, wp_pure, setAll]
  refine ⟨ble_of (by omega), by simp, hq _ ⟨a, _, e', upd_same _ _ _, by rw [cont_size_set]; exact b2, fun x hx => ?_⟩⟩
  rw [cont_at_set _ _ _ _ (by omega)]
  by_cases q : x = j
  · simp only [if_pos q]
  · simp only [if_neg q]; exact b3 x hx
theorem reps_len (z : AVal) : ∀ m, (reps [z] m).length = m := by
  intro m
  induction m with
  | zero => rfl
  | succ m ih => simp [reps, ih]
theorem reps_nth (z : AVal) : ∀ m j, j < m → nth (reps [z] m) j .junk = z := by
  intro m
  induction m with
  | zero => intro j h; omega
  | succ m ih =>
    intro j h
    cases j with
    | zero => rfl
    | succ j => exact ih j (by omega)
/-- A row of noughts. -/
theorem ints_make {k : IntKind} {t e : TypeId} {i : TI} {k1 k2 : IntKind} {m : Nat} {z : Int} (hz : z = (m : Nat)) (ht : und E t = M.pure (.slice e)) (he : ti E e = M.pure i) (hs : i.size = 1) (hzero : i.zero.cells = [.int k 0]) (hroom : i.bytes * m ≤ 281474976710656) (hm : m ≤ 9223372036854775807)
    (hq : ∀ v b, Ints k (upd h n (some b)) v n m (fun _ => 0) → Ops E fn rnd Q ks ops rest (putT tm d v) (upd h n (some b)) (n + 1)) :
    OpV E fn rnd Q ks ops rest d tm (makeSlice E t (.int k1 z) (.int k2 z)) h n := by
  subst hz
  have c1 : (0 : Int) ≤ ((m : Nat) : Int) ∧ ((m : Nat) : Int) ≤ ((m : Nat) : Int) ∧ ((m : Nat) : Int) ≤ 9223372036854775807 ∧ ((i.bytes : Nat) : Int) * ((m : Nat) : Int) ≤ 281474976710656 := by
    refine ⟨by omega, by omega, by omega, ?_⟩
    have : ((i.bytes * m : Nat) : Int) ≤ 281474976710656 := by omega
    rwa [Int.natCast_mul] at this
  simp only [makeSlice, ht, he, bind_pure, intK, opv_ob, c1, hzero, newRow, bind_assoc, opv_new, opv_pure, Int.toNat_natCast, hs]
  refine ⟨rfl, hq _ _ ⟨⟨_, rfl⟩, _, e, upd_same _ _ _, by simp [Cont.size, reps_len], fun j hj => ?_⟩⟩
  exact reps_nth _ m j hj
/-! ### Cells of arrays -/
/-- Numbers in a block. -/
def Arr (k : IntKind) (h : Hp) (id m : Nat) (f : Nat → Int) : Prop := ∃ c e, h id = some (.row c e) ∧ c.size = m ∧ ∀ j, j < m → c.at j = .int k (f j)
theorem Arr.ext {k : IntKind} {id m : Nat} {f g : Nat → Int} (hi : Arr k h id m f) (hfg : ∀ j, j < m → f j = g j) : Arr k h id m g := by
  obtain ⟨c, e, b1, b2, b3⟩ := hi
  exact ⟨c, e, b1, b2, fun j hj => by rw [b3 j hj, hfg j hj]⟩
theorem Arr.keep {k : IntKind} {id m : Nat} {f : Nat → Int} {h' : Hp} (hi : Arr k h id m f) (hk : h' id = h id) : Arr k h' id m f := by
  obtain ⟨c, e, b1, b2, b3⟩ := hi
  exact ⟨c, e, hk.trans b1, b2, b3⟩
theorem Arr.upd {k : IntKind} {id m i : Nat} {f : Nat → Int} {b : Option Blk} (hi : Arr k h id m f) (hk : id ≠ i) : Arr k (upd h i b) id m f := hi.keep (upd_ne _ _ hk)
theorem arr_idx {t e : TypeId} {m : Nat} (ht : und E t = M.pure (.array m e)) (he : sizeOf E e = M.pure 1) {kk : IntKind} {z : Int} {j id : Nat} (hz : z = (j : Nat)) (hj : j < m) {h' : Hp} {n' : Nat} : Rd (indexAddr E t (.ptr id 0) (.int kk z)) h' n' [] (.ptr id j) := by
  subst hz
  simp only [indexAddr, ht, he, bind_pure, intK, Go.Am.idx, bind_assoc, Int.toNat_natCast, Nat.mul_one, moved, Nat.zero_add]
  exact Rd.bind (i2 := []) (Rd.ob (by simp; omega)) (Rd.pure _)
theorem Arr.load {k : IntKind} {id m : Nat} {f : Nat → Int} (hi : Arr k h id m f) {e : TypeId} {i : TI} (he : ti E e = M.pure i) (ha : aggB i.desc = false) {j : Nat} (hj : j < m) : Rd (load E e (.ptr id j)) h n [id] (.int k (f j)) := by
  obtain ⟨c, e', b1, b2, b3⟩ := hi
  simp only [Go.Am.load, he, bind_pure, ha, readCells, bind_assoc]
  refine Rd.bind (i2 := []) (Rd.get b1) ?_
  simp only [rowK, bind_assoc]
  refine Rd.bind (i2 := []) (Rd.ob (ble_of (by omega))) ?_
  rw [Cont.sub_one (by omega), b3 j hj]
  exact Rd.pure _
/-- The whole array. -/
theorem Arr.all {k : IntKind} {id m : Nat} {f : Nat → Int} (hi : Arr k h id m f) {t : TypeId} {i : TI} (he : ti E t = M.pure i) (ha : aggB i.desc = true) (hs : i.size = m) : Rd (Go.Am.load E t (.ptr id 0)) h n [id] (.agg ((List.range m).map fun j => .int k (f j))) := by
  obtain ⟨c, e', b1, b2, b3⟩ := hi
  simp only [Go.Am.load, he, bind_pure, ha, readCells, bind_assoc, hs]
  refine Rd.bind (i2 := []) (Rd.get b1) ?_
  simp only [rowK, bind_assoc]
  refine Rd.bind (i2 := []) (Rd.ob (ble_of (by omega))) ?_
  have hsub : c.sub 0 m = (List.range m).map fun j => AVal.int k (f j) := by
    have := Cont.sub_eq (c := c) (off := 0) (l := (List.range m).map fun j => AVal.int k (f j)) (by simp; omega) (fun j hj => by
      simp only [List.length_map, List.length_range] at hj
      rw [Nat.zero_add, b3 j hj]; simp)
    simpa using this
  rw [hsub]
  exact Rd.pure _
theorem wp_arr_store {k : IntKind} {id m : Nat} {f : Nat → Int} {Q1 : AVal → Hp → Nat → Prop} (hi : Arr k h id m f) {e : TypeId} {i : TI} (he : ti E e = M.pure i) (hs : i.size = 1) {j : Nat} (hj : j < m) {z : Int}
    (hq : ∀ b, Arr k (Go.Am.upd h id (some b)) id m (fun x => if x = j then z else f x) → Q1 undef (Go.Am.upd h id (some b)) n) : Wp (doStore E e (.ptr id j) (.int k z)) h n Q1 := by
  obtain ⟨c, e', b1, b2, b3⟩ := hi
  simp only [doStore, Go.Am.store, he, bind_pure, AVal.cells, hs, List.length_singleton, show Nat.beq 1 1 = true from rfl, writeCells, bind_assoc, wp_get, b1, Option.some.injEq, exists_eq_left', rowK, wp_ob, List.all_cons, List.all_nil, oneCell, Bool.and_true, wp_set, wp_pure, setAll]
  refine ⟨ble_of (by omega), by simp, hq _ ⟨_, e', upd_same _ _ _, by rw [cont_size_set]; exact b2, fun x hx => ?_⟩⟩
  rw [cont_at_set _ _ _ _ (by omega)]
  by_cases q : x = j
  · simp only [if_pos q]
  · simp only [if_neg q]; exact b3 x hx
/-- A number is written in a region that draws. -/
theorem fev_arr {k : IntKind} {id m : Nat} {f : Nat → Int} {ops : List Oper} {rest : List Oper} {d : Option Tmp} {o : Nat} {fs : List Foot} {K : _} {tm : List AVal} (hi : Arr k h id m f) (hf : Free h n) (hid : id < n) {e : TypeId} {i : TI} (he : ti E e = M.pure i) (hs : i.size = 1) {j : Nat} (hj : j < m) {z : Int}
    (hq : ∀ b r w, Arr k (Go.Am.upd h id (some b)) id m (fun x => if x = j then z else f x) → Fe E fn rnd Q K ops (o + 1) rest (putT tm d undef) (⟨o, r, w, n, n⟩ :: fs) (Go.Am.upd h id (some b)) n) :
    FeV E fn rnd Q K ops o rest d tm fs (doStore E e (.ptr id j) (.int k z)) h n := by
  refine fev_any hf (Q1 := fun v' h' n' => v' = undef ∧ n' = n ∧ ∃ b, h' = Go.Am.upd h id (some b) ∧ Arr k h' id m (fun x => if x = j then z else f x)) (wp_arr_store hi he hs hj fun b hb => ⟨rfl, rfl, b, rfl, hb⟩) fun v' h' n' r w hn hf' hh => ?_
  obtain ⟨rfl, rfl, b, rfl, hb⟩ := hh
  exact hq b r w hb
theorem opv_arr {k : IntKind} {id m : Nat} {f : Nat → Int} (hi : Arr k h id m f) {e : TypeId} {i : TI} (he : ti E e = M.pure i) (hs : i.size = 1) {j : Nat} (hj : j < m) {z : Int}
    (hq : ∀ b, Arr k (Go.Am.upd h id (some b)) id m (fun x => if x = j then z else f x) → Ops E fn rnd Q ks ops rest (putT tm d undef) (Go.Am.upd h id (some b)) n) :
    OpV E fn rnd Q ks ops rest d tm (doStore E e (.ptr id j) (.int k z)) h n := wp_arr_store hi he hs hj hq
/-- Cells of one block. -/
theorem cell_rd {id e off : Nat} {t : TypeId} {i : TI} {cs : List AVal} {x : AVal} (hh : h id = some (.row (.l cs) e)) (hc : cs[off]? = some x) (hi : ti E t = M.pure i) (ha : aggB i.desc = false) : Rd (Go.Am.load E t (.ptr id off)) h n [id] x := by
  obtain ⟨hl, hx⟩ := List.getElem?_eq_some_iff.1 hc
  simp only [Go.Am.load, hi, bind_pure, ha, readCells, bind_assoc]
  refine Rd.bind (i2 := []) (Rd.get hh) ?_
  simp only [rowK, bind_assoc]
  refine Rd.bind (i2 := []) (Rd.ob (ble_of (by show off + 1 ≤ cs.length; omega))) ?_
  rw [Cont.sub_one (by show off < cs.length; exact hl), Cont.at_l hl, hx]
  exact Rd.pure _
/-- The words of a number in a block. -/
theorem arr_W {a id e : Nat} {h : Hp} (hh : h id = some (.row (.l [.int .u64 (wd a 0 : Nat), .int .u64 (wd a 1 : Nat), .int .u64 (wd a 2 : Nat), .int .u64 (wd a 3 : Nat)]) e)) : Arr .u64 h id 4 (fun j => (wd a j : Nat)) :=
  ⟨_, e, hh, rfl, fun j hj => by
    match j, hj with
    | 0, _ => rfl
    | 1, _ => rfl
    | 2, _ => rfl
    | 3, _ => rfl⟩
theorem arr_0 {id e : Nat} {h : Hp} (hh : h id = some (.row (.l [.int .u64 0, .int .u64 0, .int .u64 0, .int .u64 0]) e)) : Arr .u64 h id 4 (fun _ => 0) :=
  ⟨_, e, hh, rfl, fun j hj => by
    match j, hj with
    | 0, _ => rfl
    | 1, _ => rfl
    | 2, _ => rfl
    | 3, _ => rfl⟩
theorem range4 {k : IntKind} (f : Nat → Int) : ((List.range 4).map fun j => AVal.int k (f j)) = [.int k (f 0), .int k (f 1), .int k (f 2), .int k (f 3)] := rfl
/-- Actions that write, with what they look at. -/
structure Wr {α : Type} (m : M α) (h : Hp) (n : Nat) (rs ws : List Nat) (v : α) (h2 : Hp) : Prop where
  r : ∀ s, At s h n → ∃ s' o, m.run s = .ok v s' ∧ s'.heap.get = h2 ∧ s'.next = s.next ∧ s'.orc = none ∧ s'.rds = rs ++ s.rds ∧ s'.wrs = ws ++ s.wrs ∧ s'.obs = o ++ s.obs ∧ o.all id = true
theorem Wr.bind {α β : Type} {m : M α} {f : α → M β} {i1 rs ws : List Nat} {a : α} {b : β} {h2 : Hp} (h1 : Rd m h n i1 a) (hw : Wr (f a) h n rs ws b h2) : Wr (m.bind f) h n (rs ++ i1) ws b h2 := by
  refine ⟨fun s hs => ?_⟩
  obtain ⟨s1, o1, e1, a1, b1, c1, d1, w1, g1, q1⟩ := h1.r s hs
  obtain ⟨s2, o2, e2, a2, b2, c2, d2, w2, g2, q2⟩ := hw.r s1 ⟨by rw [a1, hs.hp], by rw [b1, hs.nx], c1⟩
  exact ⟨s2, o2 ++ o1, by simp only [M.bind, bindF, e1, e2], a2, by rw [b2, b1], c2, by rw [d2, d1, List.append_assoc], by rw [w2, w1], by rw [g2, g1, List.append_assoc], by rw [List.all_append, q1, q2]; rfl⟩
theorem Wr.ret {α β : Type} {m : M α} {rs ws : List Nat} {a : α} {w : β} {h2 : Hp} (hw : Wr m h n rs ws a h2) : Wr (m.bind fun _ => M.pure w) h n rs ws w h2 := by
  refine ⟨fun s hs => ?_⟩
  obtain ⟨s1, o1, e1, r⟩ := hw.r s hs
  exact ⟨s1, o1, by simp only [M.bind, bindF, e1, M.pure], r⟩
theorem Wr.set {id : Nat} {b0 b : Blk} (hg : h id = some b0) : Wr (setB id b) h n [] [id] () (Go.Am.upd h id (some b)) := by
  refine ⟨fun s hs => ⟨{ s with heap := s.heap.put id (some b), wrs := id :: s.wrs }, [], ?_, ?_, rfl, hs.oc, rfl, rfl, rfl, rfl⟩⟩
  · have : s.heap.get id = some b0 := by rw [hs.hp]; exact hg
    simp only [setB, setF, this]
  · funext j
    simp only [Tr.get_put, hs.hp, Go.Am.upd]
theorem fev_wr {m : M AVal} {rs ws : List Nat} {v : AVal} {h2 : Hp} {o : Nat} {fs : List Foot} (hr : Wr m h n rs ws v h2) (hq : Fe E fn rnd Q ks ops (o + 1) rest (putT tm d v) (⟨o, rs, ws, n, n⟩ :: fs) h2 n) :
    FeV E fn rnd Q ks ops o rest d tm fs m h n := by
  unfold FeV
  obtain ⟨s', ob, e, a, b, c, dd, w, g, q⟩ := hr.r (at0 h n) (at0_at h n)
  have hold : ∀ l : List Nat, l.filter (old n n) = l := fun l => by
    rw [List.filter_eq_self]
    intro id _
    unfold old
    by_cases hc : id < n
    · rw [show id.blt n = true from Nat.ble_eq_true_of_le hc]; rfl
    · rw [show n.ble id = true from Nat.ble_eq_true_of_le (by omega)]; simp
  have hf : (foot o m).run (at0 h n) = .ok (v, ⟨o, rs, ws, n, n⟩) { s' with rds := s'.rds ++ (at0 h n).rds, wrs := s'.wrs ++ (at0 h n).wrs } := by
    have e' : m.run { at0 h n with rds := [], wrs := [] } = .ok v s' := e
    simp only [foot, footF, e', dd, w, b]
    simp only [at0, List.append_nil, hold]
  rw [wp_iff]
  refine ⟨_, _, ⟨hf, ⟨ob, g, q⟩, c⟩, ?_⟩
  rw [a, b]; exact hq
theorem setAll_cells (vs : List AVal) : ∀ (c : Cont) (off : Nat), off + vs.length ≤ c.size → (setAll c off vs).size = c.size ∧ ∀ x, (setAll c off vs).at x = if off ≤ x ∧ x < off + vs.length then vs.getD (x - off) .junk else c.at x := by
  induction vs with
  | nil => intro c off h; exact ⟨rfl, fun x => by rw [if_neg (by simp only [List.length_nil]; omega), setAll]⟩
  | cons v vs ih =>
    intro c off h
    simp only [List.length_cons] at h
    obtain ⟨a, b⟩ := ih (c.set off v) (off + 1) (by rw [cont_size_set]; omega)
    refine ⟨by simp only [setAll]; rw [a, cont_size_set], fun x => ?_⟩
    simp only [setAll]
    rw [b x, cont_at_set _ _ _ _ (by omega)]
    by_cases e : x = off
    · subst e
      rw [if_neg (by omega), if_pos rfl, if_pos (by simp)]
      simp
    · by_cases e2 : off + 1 ≤ x ∧ x < off + 1 + vs.length
      · rw [if_pos e2, if_pos (by simp only [List.length_cons]; omega)]
        rw [show x - off = (x - (off + 1)) + 1 by omega]; simp
      · rw [if_neg e2, if_neg e, if_neg (by simp only [List.length_cons]; omega)]
def pick4 (a b c d : Int) (j : Nat) : Int := match j with | 0 => a | 1 => b | 2 => c | _ => d
/-- What stores into an array. -/
theorem wr_all4 {k : IntKind} {id : Nat} {f : Nat → Int} (hi : Arr k h id 4 f) {t : TypeId} {i : TI} (he : ti E t = M.pure i) (hs : i.size = 4) {a b c d' : Int} : ∃ bb, Wr (doStore E t (.ptr id 0) (.agg [.int k a, .int k b, .int k c, .int k d'])) h n [id] [id] undef (Go.Am.upd h id (some bb)) ∧ Arr k (Go.Am.upd h id (some bb)) id 4 (pick4 a b c d') := by
  obtain ⟨cc, e', b1, b2, b3⟩ := hi
  refine ⟨.row (setAll cc 0 [.int k a, .int k b, .int k c, .int k d']) e', ?_, ?_⟩
  · simp only [doStore, Go.Am.store, he, bind_pure, AVal.cells, hs, List.length_cons, List.length_nil, Nat.reduceAdd, show Nat.beq 4 4 = true from rfl, writeCells]
    refine Wr.ret (a := ()) ?_
    refine Wr.bind (rs := []) (Rd.get b1) ?_
    simp only [rowK]
    refine Wr.bind (rs := []) (i1 := []) (Rd.ob (ble_of (by omega))) ?_
    exact Wr.set b1
  · obtain ⟨s1, s2⟩ := setAll_cells [.int k a, .int k b, .int k c, .int k d'] cc 0 (by simp; omega)
    refine ⟨_, e', upd_same _ _ _, s1.trans b2, fun x hx => ?_⟩
    rw [s2 x, if_pos (by simp; omega)]
    match x, hx with
    | 0, _ => rfl
    | 1, _ => rfl
    | 2, _ => rfl
    | 3, _ => rfl
/-- A whole array of four is written. -/
theorem opv_all4 {k : IntKind} {id : Nat} {f : Nat → Int} (hi : Arr k h id 4 f) {t : TypeId} {i : TI} (he : ti E t = M.pure i) (hs : i.size = 4) {a b c d' : Int}
    (hq : ∀ bb, Arr k (Go.Am.upd h id (some bb)) id 4 (pick4 a b c d') → Ops E fn rnd Q ks ops rest (putT tm d undef) (Go.Am.upd h id (some bb)) n) :
    OpV E fn rnd Q ks ops rest d tm (doStore E t (.ptr id 0) (.agg [.int k a, .int k b, .int k c, .int k d'])) h n := by
  obtain ⟨cc, e', b1, b2, b3⟩ := hi
  simp only [doStore, Go.Am.store, he, bind_pure, AVal.cells, hs, List.length_cons, List.length_nil, Nat.reduceAdd, show Nat.beq 4 4 = true from rfl, writeCells, bind_assoc, OpV, wp_get, b1, Option.some.injEq, exists_eq_left', rowK, wp_ob, List.all_cons, List.all_nil, oneCell, Bool.and_true, wp_set, wp_pure, setAll]
  refine ⟨ble_of (by omega), by simp, hq _ ⟨_, e', upd_same _ _ _, by simp only [cont_size_set]; exact b2, fun x hx => ?_⟩⟩
  have s1 : (cc.set 0 (.int k a)).size = cc.size := cont_size_set _ _ _
  have s2 : ((cc.set 0 (.int k a)).set 1 (.int k b)).size = cc.size := by rw [cont_size_set, s1]
  have s3 : (((cc.set 0 (.int k a)).set 1 (.int k b)).set 2 (.int k c)).size = cc.size := by rw [cont_size_set, s2]
  rw [cont_at_set _ _ _ _ (by omega), cont_at_set _ _ _ _ (by omega), cont_at_set _ _ _ _ (by omega), cont_at_set _ _ _ _ (by omega)]
  match x, hx with
  | 0, _ => rfl
  | 1, _ => rfl
  | 2, _ => rfl
  | 3, _ => rfl
theorem wp_rd {α : Type} {m : M AVal} {f : AVal → M α} {ids : List Nat} {v : AVal} {Q1 : α → Hp → Nat → Prop} (hr : Rd m h n ids v) : Wp (m.bind f) h n Q1 ↔ Wp (f v) h n Q1 := wp_det hr.wp f Q1
theorem arr_slice {t e : TypeId} {m id l hi : Nat} {lo' hi' : Option AVal} (ht : und E t = M.pure (.array m e)) (he : sizeOf E e = M.pure 1)
    (hl : ∀ k, Rd (bound lo' 0 k) h n [] l ∨ ¬ l ≤ k) (hh : Rd (bound hi' m m) h n [] hi) (hlh : l ≤ hi) : Rd (slice E t (.ptr id 0) lo' hi' none) h n [] (.sl id l (hi - l) (some (m - l)) 1) := by
  simp only [slice, ht, he, bind_pure, Nat.mul_one, Nat.zero_add]
  refine Rd.bind (i2 := []) hh ?_
  rcases hl hi with h1 | h1
  · exact Rd.bind (i2 := []) h1 (Rd.pure _)
  · exact absurd hlh h1
theorem bound_none (d k : Nat) (hd : d ≤ k) : Rd (bound none d k) h n [] d := by
  simp only [bound]
  first | exact Rd.pure _ | exact Rd.bind (i2 := []) (Rd.ob (by simp; omega)) (Rd.pure _)
theorem bound_some (j d k : Nat) (hj : j ≤ k) : Rd (bound (some (.int .i64 (j : Nat))) d k) h n [] j := by
  simp only [bound, intK]
  first | exact Rd.bind (i2 := []) (Rd.ob (by simp; omega)) (Rd.pure _) | exact Rd.pure _
/-- Numbers are copied into an array. -/
theorem wp_copy_arr {k : IntKind} {id id2 m m2 off c : Nat} {f g : Nat → Int} {cap1 cap2 : Option Nat} {t e : TypeId} {Q1 : AVal → Hp → Nat → Prop} (hi : Arr k h id m f) (h2 : Arr k h id2 m2 g) (ht : und E t = M.pure (.slice e)) (he : sizeOf E e = M.pure 1) (hc : 0 < c) (hm : c ≤ m) (hm2 : off + c ≤ m2)
    (hq : ∀ b, Arr k (Go.Am.upd h id (some b)) id m (fun x => if x < c then g (off + x) else f x) → Q1 (.int .i64 (c : Nat)) (Go.Am.upd h id (some b)) n) : Wp (copy E t (.sl id 0 c cap1 1) (.sl id2 off c cap2 1)) h n Q1 := by
  obtain ⟨cc, e', b1, b2, b3⟩ := hi
  obtain ⟨cg, e2, g1, g2, g3⟩ := h2
  have hsub : cg.sub off (c * 1) = (List.range c).map fun j => AVal.int k (g (off + j)) := by
    have := Cont.sub_eq (c := cg) (off := off) (l := (List.range c).map fun j => AVal.int k (g (off + j))) (by simp; omega) (fun j hj => by
      simp only [List.length_map, List.length_range] at hj
      rw [g3 _ (by omega)]; simp)
    simpa using this
  have hne : c.beq 0 = false := beq_of (by omega)
  have hb1 : (off + c * 1).ble cg.size = true := ble_of (by omega)
  have hall : ((List.range c).map fun j => AVal.int k (g (off + j))).all oneCell = true := by simp [oneCell]
  simp only [copy, ht, he, bind_pure, lenOf, wp_ask, hne, Nat.min_self, sliceCells, sameSz, show Nat.beq 1 1 = true from rfl, bind_assoc, wp_get, g1, Option.some.injEq, exists_eq_left', rowK, wp_ob, hsub, hb1, Nat.ble_self_eq_true, true_and, writeCells, b1, hall, wp_set, wp_pure]
  obtain ⟨s1, s2⟩ := setAll_cells ((List.range c).map fun j => AVal.int k (g (off + j))) cc 0 (by simp; omega)
  refine ⟨ble_of (by simp; omega), by simp, hq _ ⟨_, e', upd_same _ _ _, s1.trans b2, fun x hx => ?_⟩⟩
  rw [s2 x]
  simp only [List.length_map, List.length_range, Nat.zero_le, true_and, Nat.zero_add, Nat.sub_zero]
  by_cases hxc : x < c
  · simp only [if_pos hxc]
    rw [List.getD_eq_getElem?_getD, List.getElem?_eq_getElem (by simpa using hxc)]; simp
  · simp only [if_neg hxc]
    exact b3 x hx
theorem bound_lit {z : Int} (j d k : Nat) (hz : z = (j : Nat)) (hj : j ≤ k) : Rd (bound (some (.int .i64 z)) d k) h n [] j := by
  subst hz
  exact bound_some j d k hj
/-- A whole array of four is written in a region that draws. -/
theorem fev_all4 {k : IntKind} {id : Nat} {f : Nat → Int} {o : Nat} {fs : List Foot} (hi : Arr k h id 4 f) {t : TypeId} {i : TI} (he : ti E t = M.pure i) (hs : i.size = 4) {a b c d' : Int}
    (hq : ∀ bb, Arr k (Go.Am.upd h id (some bb)) id 4 (pick4 a b c d') → Fe E fn rnd Q ks ops (o + 1) rest (putT tm d undef) (⟨o, [id], [id], n, n⟩ :: fs) (Go.Am.upd h id (some bb)) n) :
    FeV E fn rnd Q ks ops o rest d tm fs (doStore E t (.ptr id 0) (.agg [.int k a, .int k b, .int k c, .int k d'])) h n := by
  obtain ⟨bb, hw, hb⟩ := wr_all4 (n := n) hi he hs (a := a) (b := b) (c := c) (d' := d')
  exact fev_wr hw (hq bb hb)
theorem clash_rw {i j n m x y : Nat} (h : x ≠ y) : clash ⟨i, [x], [], n, n⟩ ⟨j, [y], [y], m, m⟩ = false := by
  simp [clash, meets, hits, beq_of h]
theorem clash_wr {i j n m x y : Nat} (h : x ≠ y) : clash ⟨i, [x], [x], n, n⟩ ⟨j, [y], [], m, m⟩ = false := by
  simp [clash, meets, hits, beq_of h]
theorem clash_ww {i j n m x y : Nat} (h : x ≠ y) : clash ⟨i, [x], [x], n, n⟩ ⟨j, [y], [y], m, m⟩ = false := by
  simp [clash, meets, hits, beq_of h]
theorem clash_nw {i j a b m x : Nat} (h : x < a ∨ b ≤ x) : clash ⟨i, [], [], a, b⟩ ⟨j, [x], [x], m, m⟩ = false := by
  have : within a b x = false := by
    unfold within
    rcases h with h | h
    · rw [blit_of (by omega)]; rfl
    · rw [show x.blt b = false from blit_of (by omega)]; simp
  simp only [clash, meets, hits, this, List.any_nil, List.any_cons, Bool.or_false, Bool.false_or, Bool.or_self]
  cases a.beq b <;> simp [this]
theorem clash_xn {i j a b m x : Nat} (h : x < a ∨ b ≤ x) : clash ⟨i, [x], [], m, m⟩ ⟨j, [], [], a, b⟩ = false := by
  have : within a b x = false := by
    unfold within
    rcases h with h | h
    · rw [blit_of (by omega)]; rfl
    · rw [show x.blt b = false from blit_of (by omega)]; simp
  simp only [clash, meets, hits, this, List.any_nil, List.any_cons, Bool.or_false, Bool.false_or, Bool.or_self]
  cases a.beq b <;> simp [this]
theorem clash_nx {i j a b m x : Nat} (h : x < a ∨ b ≤ x) : clash ⟨i, [], [], a, b⟩ ⟨j, [x], [], m, m⟩ = false := by
  have : within a b x = false := by
    unfold within
    rcases h with h | h
    · rw [blit_of (by omega)]; rfl
    · rw [show x.blt b = false from blit_of (by omega)]; simp
  simp only [clash, meets, hits, this, List.any_nil, List.any_cons, Bool.or_false, Bool.false_or, Bool.or_self]
  cases a.beq b <;> simp [this]
end Go.Am
