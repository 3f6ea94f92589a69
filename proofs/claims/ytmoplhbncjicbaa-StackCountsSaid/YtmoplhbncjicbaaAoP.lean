/- Rows of numbers that are written, by what stands in them; bits. -/
import Derived.Test.YtmoplhbncjicbaaAoN
set_option linter.unusedSimpArgs false
set_option linter.unusedVariables false
set_option linter.defProp false
namespace Go.Am
open Go Go.RowKit
variable {E : Env} {fn : FuncId} {rnd : Option Nat} {Q : Post0} {ks : List Kf} {tm : List AVal} {h : Hp} {n : Nat} {ops rest : List Oper} {d : Option Tmp}
def cellsF (k : IntKind) (m : Nat) (g : Nat → Int) : List AVal := (List.range m).map fun j => .int k (g j)
theorem cellsF_len (k : IntKind) (m : Nat) (g : Nat → Int) : (cellsF k m g).length = m := by simp [cellsF]
theorem cellsF_ext {k : IntKind} {m : Nat} {g f : Nat → Int} (hfg : ∀ j, j < m → g j = f j) : cellsF k m g = cellsF k m f := by
  unfold cellsF
  refine List.map_congr_left fun j hj => ?_
  rw [hfg j (List.mem_range.1 hj)]
theorem cellsF_get (k : IntKind) {m j : Nat} (g : Nat → Int) (hj : j < m) : (cellsF k m g)[j]? = some (.int k (g j)) := by
  unfold cellsF
  rw [List.getElem?_map, List.getElem?_range hj]; rfl
theorem put_at (xs : List AVal) (v : AVal) : ∀ (i j : Nat), (put xs i v)[j]? = if j = i ∧ i < xs.length then some v else xs[j]? := by
  induction xs with
  | nil => intro i j; simp [put]
  | cons a xs ih =>
    intro i j
    cases i with
    | zero => cases j <;> simp [put]
    | succ i =>
      cases j with
      | zero => simp [put]
      | succ j => simp only [put, List.getElem?_cons_succ, ih i j, List.length_cons]; simp
theorem cellsF_put (k : IntKind) {m i : Nat} (g : Nat → Int) (z : Int) (hi : i < m) : put (cellsF k m g) i (.int k z) = cellsF k m (fun x => if x = i then z else g x) := by
  refine List.ext_getElem? fun j => ?_
  rw [put_at, cellsF_len]
  by_cases hj : j < m
  · rw [cellsF_get k _ hj]
    by_cases e : j = i
    · rw [if_pos ⟨e, hi⟩, cellsF_get k _ hj]
      simp only [if_pos e]
    · rw [if_neg (fun q => e q.1), cellsF_get k _ hj]
      simp only [if_neg e]
  · rw [if_neg (fun q => hj (by omega)), List.getElem?_eq_none (by rw [cellsF_len]; omega), List.getElem?_eq_none (by rw [cellsF_len]; omega)]
theorem cellsF_one (k : IntKind) (m : Nat) (g : Nat → Int) : (cellsF k m g).all oneCell = true := by
  unfold cellsF
  simp [oneCell]
theorem cellsF_app (k : IntKind) (a b : Nat) (g f : Nat → Int) : cellsF k a g ++ cellsF k b f = cellsF k (a + b) (fun j => if j < a then g j else f (j - a)) := by
  refine List.ext_getElem? fun j => ?_
  by_cases h1 : j < a
  · rw [List.getElem?_append_left (by rw [cellsF_len]; exact h1), cellsF_get k _ h1, cellsF_get k _ (by omega), if_pos h1]
  · rw [List.getElem?_append_right (by rw [cellsF_len]; omega), cellsF_len]
    by_cases h2 : j - a < b
    · rw [cellsF_get k _ h2, cellsF_get k _ (by omega), if_neg h1]
    · rw [List.getElem?_eq_none (by rw [cellsF_len]; omega), List.getElem?_eq_none (by rw [cellsF_len]; omega)]
/-- Numbers of a row, from off on. -/
def Nums (k : IntKind) (h : Hp) (v : AVal) (id off m tot : Nat) (g : Nat → Int) : Prop := (∃ cap, v = .sl id off m cap 1) ∧ off + m ≤ tot ∧ ∃ e, h id = some (.row (.l (cellsF k tot g)) e)
theorem Nums.ext {k : IntKind} {v : AVal} {id off m tot : Nat} {g f : Nat → Int} (hi : Nums k h v id off m tot g) (hfg : ∀ j, j < tot → g j = f j) : Nums k h v id off m tot f := by
  obtain ⟨a, b, e, c⟩ := hi
  exact ⟨a, b, e, by rw [c, cellsF_ext hfg]⟩
theorem Nums.keep {k : IntKind} {v : AVal} {id off m tot : Nat} {g : Nat → Int} {h' : Hp} (hi : Nums k h v id off m tot g) (hk : h' id = h id) : Nums k h' v id off m tot g := by
  obtain ⟨a, b, e, c⟩ := hi
  exact ⟨a, b, e, hk.trans c⟩
theorem Nums.upd {k : IntKind} {v : AVal} {id off m tot i : Nat} {g : Nat → Int} {b : Option Blk} (hi : Nums k h v id off m tot g) (hk : id ≠ i) : Nums k (Go.Am.upd h i b) v id off m tot g := hi.keep (upd_ne _ _ hk)
theorem Nums.len {k : IntKind} {v : AVal} {id off m tot : Nat} {g : Nat → Int} (hi : Nums k h v id off m tot g) {t e : TypeId} {ts : List TypeId} (ht : und E t = M.pure (.slice e)) : bLen E (t :: ts) v = M.pure (.int .i64 (m : Nat)) := by
  obtain ⟨⟨cap, rfl⟩, _⟩ := hi
  simp only [bLen, ht, bind_pure, lenOf]
theorem Nums.idx {k : IntKind} {v : AVal} {id off m tot : Nat} {g : Nat → Int} (hi : Nums k h v id off m tot g) {t e : TypeId} (ht : und E t = M.pure (.slice e)) (he : sizeOf E e = M.pure 1) {kk : IntKind} {z : Int} {j : Nat} (hz : z = (j : Nat)) (hj : j < m) {h' : Hp} {n' : Nat} : Rd (indexAddr E t v (.int kk z)) h' n' [] (.ptr id (off + j)) := by
  obtain ⟨⟨cap, rfl⟩, _⟩ := hi
  subst hz
  simp only [indexAddr, ht, he, bind_pure, intK, slK, Go.Am.idx, bind_assoc, Nat.beq_refl, Int.toNat_natCast, Nat.mul_one]
  exact Rd.bind (i2 := []) (Rd.ob (by simp; omega)) (Rd.pure _)
theorem Nums.load {k : IntKind} {v : AVal} {id off m tot : Nat} {g : Nat → Int} (hi : Nums k h v id off m tot g) {e : TypeId} {i : TI} (he : ti E e = M.pure i) (ha : aggB i.desc = false) {j : Nat} (hj : j < m) : Rd (load E e (.ptr id (off + j))) h n [id] (.int k (g (off + j))) := by
  obtain ⟨_, b, e', c⟩ := hi
  exact cell_rd c (cellsF_get k g (by omega)) he ha
theorem Nums.store {k : IntKind} {v : AVal} {id off m tot : Nat} {g : Nat → Int} (hi : Nums k h v id off m tot g) {e : TypeId} {i : TI} (he : ti E e = M.pure i) (hs : i.size = 1) {j : Nat} (hj : j < m) {z : Int}
    (hq : ∀ b, Nums k (Go.Am.upd h id (some b)) v id off m tot (fun x => if x = off + j then z else g x) → Ops E fn rnd Q ks ops rest (putT tm d undef) (Go.Am.upd h id (some b)) n) :
    OpV E fn rnd Q ks ops rest d tm (doStore E e (.ptr id (off + j)) (.int k z)) h n := by
  obtain ⟨a, b, e', c⟩ := hi
  simp only [doStore, Go.Am.store, he, bind_pure, AVal.cells, hs, List.length_singleton, show Nat.beq 1 1 = true from rfl, writeCells, bind_assoc, OpV, wp_get, c, Option.some.injEq, exists_eq_left', rowK, wp_ob, List.all_cons, List.all_nil, oneCell, Bool.and_true, wp_set, wp_pure, setAll, Cont.size, Cont.set, cellsF_len]
  refine ⟨ble_of (by omega), by simp, hq _ ⟨a, b, e', ?_⟩⟩
  rw [upd_same, cellsF_put k g z (by omega)]
theorem Nums.idx0 {k : IntKind} {v : AVal} {id m tot : Nat} {g : Nat → Int} (hi : Nums k h v id 0 m tot g) {t e : TypeId} (ht : und E t = M.pure (.slice e)) (he : sizeOf E e = M.pure 1) {kk : IntKind} {z : Int} {j : Nat} (hz : z = (j : Nat)) (hj : j < m) {h' : Hp} {n' : Nat} : Rd (indexAddr E t v (.int kk z)) h' n' [] (.ptr id j) := by
  have := hi.idx (E := E) ht he (kk := kk) hz hj (h' := h') (n' := n')
  rwa [Nat.zero_add] at this
theorem Nums.load0 {k : IntKind} {v : AVal} {id m tot : Nat} {g : Nat → Int} (hi : Nums k h v id 0 m tot g) {e : TypeId} {i : TI} (he : ti E e = M.pure i) (ha : aggB i.desc = false) {j : Nat} (hj : j < m) : Rd (Go.Am.load E e (.ptr id j)) h n [id] (.int k (g j)) := by
  have := hi.load (E := E) (n := n) he ha hj
  rwa [Nat.zero_add] at this
theorem Nums.store0 {k : IntKind} {v : AVal} {id m tot : Nat} {g : Nat → Int} (hi : Nums k h v id 0 m tot g) {e : TypeId} {i : TI} (he : ti E e = M.pure i) (hs : i.size = 1) {j : Nat} (hj : j < m) {z : Int}
    (hq : ∀ b, Nums k (Go.Am.upd h id (some b)) v id 0 m tot (fun x => if x = j then z else g x) → Ops E fn rnd Q ks ops rest (putT tm d undef) (Go.Am.upd h id (some b)) n) :
    OpV E fn rnd Q ks ops rest d tm (doStore E e (.ptr id j) (.int k z)) h n := by
  have := hi.store (E := E) (fn := fn) (rnd := rnd) (Q := Q) (ks := ks) (ops := ops) (rest := rest) (d := d) (tm := tm) (n := n) he hs hj (z := z) (by rw [Nat.zero_add]; exact hq)
  rwa [Nat.zero_add] at this
/-- A row of noughts. -/
theorem nums_make {k : IntKind} {t e : TypeId} {i : TI} {k1 k2 : IntKind} {m : Nat} {z : Int} (hz : z = (m : Nat)) (ht : und E t = M.pure (.slice e)) (he : ti E e = M.pure i) (hs : i.size = 1) (hzero : i.zero.cells = [.int k 0]) (hroom : i.bytes * m ≤ 281474976710656) (hm : m ≤ 9223372036854775807)
    (hq : Nums k (upd h n (some (.row (.l (cellsF k m fun _ => 0)) e))) (.sl n 0 m (some m) 1) n 0 m m (fun _ => 0) → Ops E fn rnd Q ks ops rest (putT tm d (.sl n 0 m (some m) 1)) (upd h n (some (.row (.l (cellsF k m fun _ => 0)) e))) (n + 1)) :
    OpV E fn rnd Q ks ops rest d tm (makeSlice E t (.int k1 z) (.int k2 z)) h n := by
  subst hz
  have hr : reps [AVal.int k 0] m = cellsF k m (fun _ => 0) := by
    refine List.ext_getElem (by rw [reps_len, cellsF_len]) fun j h1 h2 => ?_
    rw [reps_len] at h1
    have a := reps_nth (.int k 0) m j h1
    have b : ∀ (xs : List AVal) (j : Nat) (hj : j < xs.length), nth xs j .junk = xs[j] := by
      intro xs
      induction xs with
      | nil => intro j hj; cases hj
      | cons x xs ih => intro j hj; cases j with
        | zero => rfl
        | succ j => exact ih j (by simpa using hj)
    rw [b _ _ (by rw [reps_len]; exact h1)] at a
    rw [a]
    simp [cellsF]
  have c1 : (0 : Int) ≤ ((m : Nat) : Int) ∧ ((m : Nat) : Int) ≤ ((m : Nat) : Int) ∧ ((m : Nat) : Int) ≤ 9223372036854775807 ∧ ((i.bytes : Nat) : Int) * ((m : Nat) : Int) ≤ 281474976710656 := by
    refine ⟨by omega, by omega, by omega, ?_⟩
    have : ((i.bytes * m : Nat) : Int) ≤ 281474976710656 := by omega
    rwa [Int.natCast_mul] at this
  simp only [makeSlice, ht, he, bind_pure, intK, opv_ob, c1, hzero, newRow, bind_assoc, opv_new, opv_pure, Int.toNat_natCast, hs, hr]
  exact ⟨rfl, hq ⟨⟨_, rfl⟩, by omega, e, upd_same _ _ _⟩⟩
/-- A number's bits. -/
def bit (a j : Nat) : Int := ((a / 2 ^ j % 2 : Nat) : Int)
theorem bit_lt (a j : Nat) : bit a j = 0 ∨ bit a j = 1 := by unfold bit; omega
theorem low_bit (Q i j : Nat) (hQ : Q < 2 ^ i) : wd (Q + 2 ^ i) j = if j = i / 64 then wd Q j + 2 ^ (i % 64) else wd Q j := by
  have h1 : Q + 2 ^ i = 2 ^ i ||| Q := by rw [or_low (2 ^ i) Q i (Nat.mod_self _) hQ, Nat.add_comm]
  have hdm := Nat.div_add_mod i 64
  rw [h1, Nat.or_comm]
  have wor : wd (Q ||| 2 ^ i) j = wd Q j ||| wd (2 ^ i) j := by
    unfold wd
    rw [show (18446744073709551616 : Nat) = 2 ^ 64 from rfl, Nat.or_div_two_pow, Nat.or_mod_two_pow]
  have wpow : wd (2 ^ i) j = if j = i / 64 then 2 ^ (i % 64) else 0 := by
    unfold wd
    by_cases h : j = i / 64
    · subst h
      rw [if_pos rfl, show 2 ^ i = 2 ^ (i % 64) * 2 ^ (64 * (i / 64)) by rw [← Nat.pow_add]; congr 1; omega, Nat.mul_div_cancel _ (Nat.two_pow_pos _), Nat.mod_eq_of_lt]
      exact Nat.lt_of_lt_of_le (Nat.pow_lt_pow_right (by decide) (Nat.mod_lt _ (by decide))) (show 2 ^ 64 ≤ 18446744073709551616 by decide)
    · rw [if_neg h]
      by_cases h2 : j < i / 64
      · rw [show 2 ^ i = 2 ^ (i - 64 * j - 64) * 18446744073709551616 * 2 ^ (64 * j) by rw [show 18446744073709551616 = 2 ^ 64 from rfl, ← Nat.pow_add, ← Nat.pow_add]; congr 1; omega, Nat.mul_div_cancel _ (Nat.two_pow_pos _), Nat.mul_mod_left]
      · rw [Nat.div_eq_of_lt (Nat.pow_lt_pow_right (by decide) (by omega)), Nat.zero_mod]
  rw [wor, wpow]
  by_cases h : j = i / 64
  · rw [if_pos h, if_pos h]
    have hlt : wd Q j < 2 ^ (i % 64) := by
      unfold wd
      refine Nat.lt_of_le_of_lt (Nat.mod_le _ _) ?_
      rw [Nat.div_lt_iff_lt_mul (Nat.two_pow_pos _), ← Nat.pow_add, h]
      rw [show i % 64 + 64 * (i / 64) = i by omega]
      exact hQ
    rw [Nat.or_comm, or_low _ _ (i % 64) (Nat.mod_self _) hlt, Nat.add_comm]
  · rw [if_neg h, if_neg h, Nat.or_zero]
theorem mod_succ_bit (a i : Nat) : a % 2 ^ (i + 1) = a % 2 ^ i + 2 ^ i * (a / 2 ^ i % 2) := by rw [Nat.pow_succ, Nat.mod_mul]
/-- Sums, bit by bit. -/
theorem add_bit (a b i : Nat) : (a / 2 ^ i % 2 + b / 2 ^ i % 2 + (a % 2 ^ i + b % 2 ^ i) / 2 ^ i) % 2 = (a + b) / 2 ^ i % 2 ∧ (a / 2 ^ i % 2 + b / 2 ^ i % 2 + (a % 2 ^ i + b % 2 ^ i) / 2 ^ i) / 2 = (a % 2 ^ (i + 1) + b % 2 ^ (i + 1)) / 2 ^ (i + 1) := by
  have hp : 0 < 2 ^ i := Nat.two_pow_pos _
  have e1 : (a + b) / 2 ^ i = a / 2 ^ i + b / 2 ^ i + (a % 2 ^ i + b % 2 ^ i) / 2 ^ i := by
    have : a + b = (a % 2 ^ i + b % 2 ^ i) + 2 ^ i * (a / 2 ^ i + b / 2 ^ i) := by
      have h1 := Nat.div_add_mod a (2 ^ i)
      have h2 := Nat.div_add_mod b (2 ^ i)
      rw [Nat.mul_add]
      omega
    rw [this, Nat.add_mul_div_left _ _ hp]
    omega
  constructor
  · rw [e1]; omega
  · rw [mod_succ_bit, mod_succ_bit, Nat.pow_succ, ← Nat.div_div_eq_div_mul]
    rw [show a % 2 ^ i + 2 ^ i * (a / 2 ^ i % 2) + (b % 2 ^ i + 2 ^ i * (b / 2 ^ i % 2)) = (a % 2 ^ i + b % 2 ^ i) + 2 ^ i * (a / 2 ^ i % 2 + b / 2 ^ i % 2) by rw [Nat.mul_add]; omega, Nat.add_mul_div_left _ _ hp]
    omega
end Go.Am
