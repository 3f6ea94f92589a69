/- Parts of bytes. -/
import Derived.Test.YtmoplhbncjicbaaAoI
set_option linter.unusedSimpArgs false
set_option linter.unusedVariables false
set_option linter.defProp false
namespace Go.Am
open Go Go.RowKit
variable {E : Env} {fn : FuncId} {rnd : Option Nat} {Q : Post0} {ks : List Kf} {tm : List AVal} {h : Hp} {n : Nat} {ops rest : List Oper} {d : Option Tmp}
theorem opv_rd {m : M AVal} {ids : List Nat} {v : AVal} (hr : Rd m h n ids v) : OpV E fn rnd Q ks ops rest d tm m h n ↔ Ops E fn rnd Q ks ops rest (putT tm d v) h n := opv_det hr.wp _ _ _ _ _ _ _ _ _
theorem Bytes.index_rd {v : AVal} {l : List UInt8} (hb : Bytes h v l) {t e : TypeId} (ht : und E t = M.pure (.slice e)) (he : sizeOf E e = M.pure 1) {k : IntKind} {i : Int} (hi : 0 ≤ i ∧ i < l.length) :
    Rd (indexAddr E t v (.int k i)) h n [] (addrOf i.toNat v) := by
  cases hb with
  | nils => simp at hi; omega
  | isl f off l hf =>
    simp only [indexAddr, ht, he, bind_pure, intK, slK, idx, bind_assoc, addrOf, Nat.mul_one, show (Nat.beq 1 1) = true from rfl]
    exact Rd.bind (i2 := []) (Rd.ob (by simp [hi])) (Rd.pure _)
  | sl id off cap c e l hh hs hc =>
    simp only [indexAddr, ht, he, bind_pure, intK, slK, idx, bind_assoc, addrOf, Nat.mul_one, show (Nat.beq 1 1) = true from rfl]
    exact Rd.bind (i2 := []) (Rd.ob (by simp [hi])) (Rd.pure _)
theorem Bytes.load_rd {v : AVal} {l : List UInt8} (hb : Bytes h v l) {e : TypeId} {i : TI} (he : ti E e = M.pure i) (ha : aggB i.desc = false) {j : Nat} (hj : j < l.length) :
    Rd (Am.load E e (addrOf j v)) h n (ownId v).toList (u8 l[j]) := by
  cases hb with
  | nils => simp at hj
  | isl f off l hf =>
    simp only [Am.load, he, ha, bind_pure, addrOf, readCells, bind_assoc, cellsOf_one, oneOf, hf j hj]
    exact Rd.bind (i2 := []) (Rd.ob (ble_of (by omega))) (Rd.pure _)
  | sl id off cap c e l hh hs hc =>
    simp only [Am.load, he, ha, bind_pure, addrOf, readCells, bind_assoc]
    refine Rd.bind (i2 := []) (Rd.get hh) ?_
    simp only [rowK, bind_assoc]
    refine Rd.bind (i2 := []) (Rd.ob (ble_of (by omega))) ?_
    rw [Cont.sub_one (by omega), hc j hj]
    exact Rd.pure _
/-- A part of a slice. -/
def subOf (lo hi : Nat) : AVal → AVal
  | .isl g sz off len => .isl g sz (off + lo * sz) (hi - lo)
  | .sl id off len cap sz => .sl id (off + lo * sz) (hi - lo) (match cap with | some c => some (c - lo) | none => none) sz
  | v => v
theorem Bytes.sub {v : AVal} {l : List UInt8} (hb : Bytes h v l) {lo hi : Nat} (h1 : lo ≤ hi) (h2 : hi ≤ l.length) : Bytes h (subOf lo hi v) ((l.take hi).drop lo) := by
  have hlen : ((l.take hi).drop lo).length = hi - lo := by simp; omega
  cases hb with
  | nils =>
    have : hi = 0 := by simpa using h2
    subst this
    have : lo = 0 := by omega
    subst this
    exact .nils
  | isl f off l hf =>
    have := Bytes.isl (h := h) f (off + lo * 1) ((l.take hi).drop lo) (fun j hj => by
      rw [hlen] at hj
      have := hf (lo + j) (by omega)
      rw [Nat.mul_one, Nat.add_assoc, this]
      simp)
    rw [hlen] at this
    exact this
  | sl id off cap c e l hh hs hc =>
    have := Bytes.sl (h := h) id (off + lo * 1) (match cap with | some c => some (c - lo) | none => none) c e ((l.take hi).drop lo) hh (by rw [hlen]; omega) (fun j hj => by
      rw [hlen] at hj
      have := hc (lo + j) (by omega)
      rw [Nat.mul_one, Nat.add_assoc, this]
      simp)
    rw [hlen] at this
    exact this
theorem sub_id (lo hi : Nat) (v : AVal) : ownId (subOf lo hi v) = ownId v := by cases v <;> rfl
theorem Below0.sub {v : AVal} (hv : Below0 n v) (lo hi : Nat) : Below0 n (subOf lo hi v) := by cases v <;> exact hv
/-- A slice whose room is known, is at least its length. -/
def Roomy : AVal → Prop
  | .sl _ _ len (some c) _ => len ≤ c
  | _ => True
theorem Bytes.slice_rd {v : AVal} {l : List UInt8} (hb : Bytes h v l) (hr : Roomy v) {t e : TypeId} (ht : und E t = M.pure (.slice e)) (he : sizeOf E e = M.pure 1) {k1 k2 : IntKind} {lo hi : Int} (h0 : 0 ≤ lo) (h1 : lo ≤ hi) (h2 : hi ≤ l.length) :
    Rd (slice E t v (some (.int k1 lo)) (some (.int k2 hi)) none) h n [] (subOf lo.toNat hi.toNat v) := by
  have hc2 : lo ≤ (hi.toNat : Int) := by omega
  cases hb with
  | nils =>
    have e1 : hi = 0 := by simp at h2; omega
    have e2 : lo = 0 := by omega
    subst e1; subst e2
    simp only [slice, ht, he, bind_pure, bound, intK, bind_assoc]
    exact Rd.bind (i2 := []) (Rd.ob (by simp)) (Rd.bind (i2 := []) (Rd.ob (by simp)) (Rd.pure _))
  | isl f off l hf =>
    simp only [slice, ht, he, bind_pure, bound, intK, bind_assoc, sameSz, show (Nat.beq 1 1) = true from rfl]
    exact Rd.bind (i2 := []) (Rd.ob (by simp; omega)) (Rd.bind (i2 := []) (Rd.ob (by simp; omega)) (Rd.pure _))
  | sl id off cap c e l hh hs hc =>
    cases cap with
    | none =>
      simp only [slice, roomOf, decide_eq_true h2, ht, he, bind_pure, bound, intK, bind_assoc, sameSz, show (Nat.beq 1 1) = true from rfl]
      exact Rd.bind (i2 := []) (Rd.ob (by simp; omega)) (Rd.bind (i2 := []) (Rd.ob (by simp; omega)) (Rd.pure _))
    | some cc =>
      have hcc : l.length ≤ cc := hr
      simp only [slice, ht, he, bind_pure, bound, intK, bind_assoc, sameSz, show (Nat.beq 1 1) = true from rfl]
      exact Rd.bind (i2 := []) (Rd.ob (by simp; omega)) (Rd.bind (i2 := []) (Rd.ob (by simp; omega)) (Rd.pure _))
theorem Bytes.tail_rd {v : AVal} {l : List UInt8} (hb : Bytes h v l) {t e : TypeId} (ht : und E t = M.pure (.slice e)) (he : sizeOf E e = M.pure 1) {k1 : IntKind} {lo : Int} (h0 : 0 ≤ lo) (h1 : lo ≤ l.length) :
    Rd (slice E t v (some (.int k1 lo)) none none) h n [] (subOf lo.toNat l.length v) := by
  cases hb with
  | nils =>
    have e2 : lo = 0 := by simp at h1; omega
    subst e2
    simp only [slice, ht, he, bind_pure, bound, intK, bind_assoc]
    exact Rd.bind (i2 := []) (Rd.ob (by simp)) (Rd.pure _)
  | isl f off l hf =>
    simp only [slice, ht, he, bind_pure, bound, intK, bind_assoc, sameSz, show (Nat.beq 1 1) = true from rfl]
    exact Rd.bind (i2 := []) (Rd.ob (by simp; omega)) (Rd.pure _)
  | sl id off cap c e l hh hs hc =>
    cases cap with
    | none =>
      simp only [slice, roomOf, ht, he, bind_pure, bound, intK, bind_assoc, sameSz, show (Nat.beq 1 1) = true from rfl]
      exact Rd.bind (i2 := []) (Rd.ob (by simp; omega)) (Rd.pure _)
    | some cc =>
      simp only [slice, ht, he, bind_pure, bound, intK, bind_assoc, sameSz, show (Nat.beq 1 1) = true from rfl]
      exact Rd.bind (i2 := []) (Rd.ob (by simp; omega)) (Rd.pure _)
theorem Roomy.sub {v : AVal} {l : List UInt8} (hb : Bytes h v l) (hr : Roomy v) {lo hi : Nat} (h1 : lo ≤ hi) (h2 : hi ≤ l.length) : Roomy (subOf lo hi v) := by
  cases hb with
  | nils => trivial
  | isl f off l hf => trivial
  | sl id off cap c e l hh hs hc =>
    cases cap with
    | none => trivial
    | some cc =>
      have : l.length ≤ cc := hr
      show hi - lo ≤ cc - lo
      omega
theorem or_gen (x y : Nat) (k : Nat) (hx : x < 2 ^ k) (hy : y < 256) (hk : k ≤ 24) : IntKind.i64.wrap (((BitVec.ofInt IntKind.i64.bits (x : Int)) ||| (BitVec.ofInt IntKind.i64.bits ((y * 2 ^ k : Nat) : Int))).toNat : Int) = ((x + y * 2 ^ k : Nat) : Int) := by
  have h1 : 2 ^ k ≤ 2 ^ 24 := Nat.pow_le_pow_right (by decide) hk
  have h2 : y * 2 ^ k ≤ 255 * 2 ^ 24 := Nat.mul_le_mul (by omega) h1
  have hb : IntKind.i64.bits = 64 := rfl
  rw [BitVec.toNat_or, BitVec.ofInt_natCast, BitVec.ofInt_natCast, BitVec.toNat_ofNat, BitVec.toNat_ofNat, hb, Nat.mod_eq_of_lt (by omega), Nat.mod_eq_of_lt (by omega), Nat.mul_comm y, Nat.or_comm, ← Nat.two_pow_add_eq_or_of_lt hx]
  rw [Nat.mul_comm y] at h2
  rw [w64 (by omega) (by omega), Nat.add_comm]
theorem or0 (y : Int) (h : 0 ≤ y) (hy : y < 256) : IntKind.i64.wrap (((BitVec.ofInt IntKind.i64.bits 0) ||| (BitVec.ofInt IntKind.i64.bits y)).toNat : Int) = y := by
  obtain ⟨m, rfl⟩ : ∃ m : Nat, y = m := ⟨y.toNat, by omega⟩
  have := or_gen 0 m 0 (by decide) (by omega) (by decide)
  simpa using this
theorem or8 (x y : Int) (hx : 0 ≤ x) (hx2 : x < 256) (h : 0 ≤ y) (hy : y < 256) : IntKind.i64.wrap (((BitVec.ofInt IntKind.i64.bits x) ||| (BitVec.ofInt IntKind.i64.bits (y * 256))).toNat : Int) = x + y * 256 := by
  obtain ⟨m, rfl⟩ : ∃ m : Nat, y = m := ⟨y.toNat, by omega⟩
  obtain ⟨k, rfl⟩ : ∃ k : Nat, x = k := ⟨x.toNat, by omega⟩
  have := or_gen k m 8 (by omega) (by omega) (by decide)
  simpa using this
theorem or16 (x y : Int) (hx : 0 ≤ x) (hx2 : x < 65536) (h : 0 ≤ y) (hy : y < 256) : IntKind.i64.wrap (((BitVec.ofInt IntKind.i64.bits x) ||| (BitVec.ofInt IntKind.i64.bits (y * 65536))).toNat : Int) = x + y * 65536 := by
  obtain ⟨m, rfl⟩ : ∃ m : Nat, y = m := ⟨y.toNat, by omega⟩
  obtain ⟨k, rfl⟩ : ∃ k : Nat, x = k := ⟨x.toNat, by omega⟩
  have := or_gen k m 16 (by omega) (by omega) (by decide)
  simpa using this
theorem or24 (x y : Int) (hx : 0 ≤ x) (hx2 : x < 16777216) (h : 0 ≤ y) (hy : y < 256) : IntKind.i64.wrap (((BitVec.ofInt IntKind.i64.bits x) ||| (BitVec.ofInt IntKind.i64.bits (y * 16777216))).toNat : Int) = x + y * 16777216 := by
  obtain ⟨m, rfl⟩ : ∃ m : Nat, y = m := ⟨y.toNat, by omega⟩
  obtain ⟨k, rfl⟩ : ∃ k : Nat, x = k := ⟨x.toNat, by omega⟩
  have := or_gen k m 24 (by omega) (by omega) (by decide)
  simpa using this
theorem pw0 : (2 : Int) ^ (min 0 IntKind.i64.bits) = 1 := by decide
theorem pw8 : (2 : Int) ^ (min 8 IntKind.i64.bits) = 256 := by decide
theorem pw16 : (2 : Int) ^ (min 16 IntKind.i64.bits) = 65536 := by decide
theorem pw24 : (2 : Int) ^ (min 24 IntKind.i64.bits) = 16777216 := by decide
theorem Bytes.keep {h h' : Hp} {v : AVal} {l : List UInt8} (hb : Bytes h v l) (hk : ∀ j, ownId v = some j → h' j = h j) : Bytes h' v l := by
  cases hb with
  | nils => exact .nils
  | isl f off l hf => exact .isl f off l hf
  | sl id off cap c e l hh hs hc => exact .sl id off cap c e l (by rw [hk id rfl]; exact hh) hs hc
theorem below_own {n : Nat} {v : AVal} (hv : Below0 n v) {j : Nat} (hj : ownId v = some j) : j < n := by
  cases v <;> simp only [ownId] at hj <;> first | (injection hj with hj; subst hj; exact hv) | cases hj
/-! ### Memory at addresses that are known -/
theorem ld_ptr (t : TypeId) (id off : Nat) : load E t (.ptr id off) = (ti E t).bind fun i => match aggB i.desc with | true => (readCells (.ptr id off) i.size).bind fun cs => M.pure (.agg cs) | false => (readCells (.ptr id off) 1).bind oneOf := rfl
theorem ld_ip (t : TypeId) (f : Nat → AVal) (n off : Nat) : load E t (.ip f n off) = (ti E t).bind fun i => match aggB i.desc with | true => (readCells (.ip f n off) i.size).bind fun cs => M.pure (.agg cs) | false => (readCells (.ip f n off) 1).bind oneOf := rfl
theorem st_ptr (t : TypeId) (id off : Nat) (v : AVal) : doStore E t (.ptr id off) v = (store E t (.ptr id off) v).bind fun _ => M.pure undef := rfl
theorem sto_ptr (t : TypeId) (id off : Nat) (v : AVal) : store E t (.ptr id off) v = (ti E t).bind fun i => match v.cells.length.beq i.size with | true => writeCells (.ptr id off) v.cells | false => fail "store: size" := rfl
theorem ia_ptr (t : TypeId) (id off : Nat) (k : IntKind) (i : Int) : indexAddr E t (.ptr id off) (.int k i) = (und E t).bind fun d => match d with
    | .array len e => (sizeOf E e).bind fun n => (idx i len).bind fun j => moved (j * n) (.ptr id off)
    | .slice e => (sizeOf E e).bind fun n => fail "slice expected"
    | _ => fail "indexAddr" := rfl
theorem ia_sl (t : TypeId) (id off len : Nat) (cap : Option Nat) (sz : Nat) (k : IntKind) (i : Int) : indexAddr E t (.sl id off len cap sz) (.int k i) = (und E t).bind fun d => match d with
    | .array len e => (sizeOf E e).bind fun n => (idx i len).bind fun j => fail "address expected"
    | .slice e => (sizeOf E e).bind fun n => match n.beq sz with
          | true => (idx i len).bind fun j => M.pure (.ptr id (off + j * n))
          | false => fail "indexAddr: size"
    | _ => fail "indexAddr" := rfl
def memr := And.intro @ld_ptr (And.intro @ld_ip (And.intro @st_ptr (And.intro @sto_ptr (And.intro @ia_ptr @ia_sl))))
end Go.Am
