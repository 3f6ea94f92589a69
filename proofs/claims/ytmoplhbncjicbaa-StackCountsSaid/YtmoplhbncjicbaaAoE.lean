/- Slices of bytes, whatever stands for them. -/
import Derived.Test.YtmoplhbncjicbaaAoD
set_option linter.unusedSimpArgs false
set_option linter.unusedVariables false
set_option linter.defProp false
namespace Go.Am
open Go Go.RowKit
variable {E : Env} {fn : FuncId} {rnd : Option Nat} {Q : Post0} {ks : List Kf} {tm : List AVal} {h : Hp} {n : Nat} {ops rest : List Oper} {d : Option Tmp}

theorem rl_list {ρ : Ren} {m : Mem} (l : List AVal) (xs : Array Value) (hv : RV ρ m l xs.toList) : RL ρ m l xs := by
  have := hv.list
  simpa using this

def u8 (b : UInt8) : AVal := .int .u8 (b.toNat : Int)
/-- A value that stands for bytes in a heap. -/
inductive Bytes (h : Hp) : AVal → List UInt8 → Prop
  | nils : Bytes h .nils []
  | isl (f : Nat → AVal) (off : Nat) (l : List UInt8) (hf : ∀ j (hj : j < l.length), f (off + j) = u8 l[j]) : Bytes h (.isl f 1 off l.length) l
  | sl (id off : Nat) (cap : Option Nat) (c : Cont) (e : TypeId) (l : List UInt8) (hh : h id = some (.row c e)) (hs : off + l.length ≤ c.size) (hc : ∀ j (hj : j < l.length), c.at (off + j) = u8 l[j]) : Bytes h (.sl id off l.length cap 1) l

theorem Bytes.len {v : AVal} {l : List UInt8} (hb : Bytes h v l) : lenOf v = M.pure l.length := by
  cases hb <;> rfl
theorem Bytes.bLen {v : AVal} {l : List UInt8} (hb : Bytes h v l) {t : TypeId} {ts : List TypeId} {e : TypeId} (ht : und E t = M.pure (.slice e)) : bLen E (t :: ts) v = M.pure (.int .i64 l.length) := by
  cases hb <;> simp only [Am.bLen, ht, bind_pure, lenOf, List.length_nil] <;> rfl
def addrOf (i : Nat) : AVal → AVal
  | .isl g sz off len => .ip g (off + len * sz) (off + i)
  | .sl id off _ _ _ => .ptr id (off + i)
  | v => v
theorem cellsOf_one (f : Nat → AVal) (off : Nat) : cellsOf f off 1 = [f off] := rfl
theorem Bytes.index {v : AVal} {l : List UInt8} (hb : Bytes h v l) {t e : TypeId} (ht : und E t = M.pure (.slice e)) (he : sizeOf E e = M.pure 1) {k : IntKind} {i : Int} :
    OpV E fn rnd Q ks ops rest d tm (indexAddr E t v (.int k i)) h n ↔ (0 ≤ i ∧ i < l.length) ∧ Ops E fn rnd Q ks ops rest (putT tm d (addrOf i.toNat v)) h n := by
  cases hb with
  | nils =>
    simp only [indexAddr, ht, he, bind_pure, intK, slK, opv_fail, List.length_nil]; constructor
    · exact False.elim
    · rintro ⟨⟨a, b⟩, _⟩; exact absurd b (by simp; omega)
  | isl f off l hf => simp only [indexAddr, ht, he, bind_pure, intK, slK, idx, bind_assoc, opv_ob, opv_pure, addrOf, decide_eq_true_eq, Nat.mul_one, show (Nat.beq 1 1) = true from rfl]
  | sl id off cap c e l hh hs hc => simp only [indexAddr, ht, he, bind_pure, intK, slK, idx, bind_assoc, opv_ob, opv_pure, addrOf, decide_eq_true_eq, Nat.mul_one, show (Nat.beq 1 1) = true from rfl]
theorem getE_some {l : List UInt8} {i : Nat} (hi : i < l.length) : l.getD i 0 = l[i] := by simp [List.getD_eq_getElem?_getD, hi]
theorem Cont.at_l {xs : List AVal} {i : Nat} (hi : i < xs.length) : (Cont.l xs).at i = xs[i] := by
  show nth xs i .junk = xs[i]
  induction xs generalizing i with
  | nil => simp at hi
  | cons a xs ih =>
    cases i with
    | zero => rfl
    | succ i => simp only [nth, List.getElem_cons_succ]; exact ih (by simpa using hi)
theorem Cont.sub_one {c : Cont} {o : Nat} (ho : o < c.size) : c.sub o 1 = [c.at o] := by
  cases c with
  | f m g => rfl
  | l xs =>
    rw [Cont.at_l ho]
    show (xs.drop o).take 1 = [xs[o]]
    rw [List.drop_eq_getElem_cons ho]; rfl
theorem Bytes.load {v : AVal} {l : List UInt8} (hb : Bytes h v l) {e : TypeId} {i : TI} (he : ti E e = M.pure i) (ha : aggB i.desc = false) {j : Nat} (hj : j < l.length) :
    OpV E fn rnd Q ks ops rest d tm (load E e (addrOf j v)) h n ↔ Ops E fn rnd Q ks ops rest (putT tm d (u8 l[j])) h n := by
  cases hb with
  | nils => simp at hj
  | isl f off l hf =>
    simp only [Am.load, he, ha, bind_pure, addrOf, readCells, bind_assoc, opv_ob, cellsOf_one, oneOf, opv_pure, hf j hj]
    simp; omega
  | sl id off cap c e l hh hs hc =>
    simp only [Am.load, he, ha, bind_pure, addrOf, readCells, bind_assoc, opv_get, hh, Option.some.injEq, exists_eq_left', rowK, opv_ob]
    rw [Cont.sub_one (by omega), hc j hj]
    simp only [oneOf, opv_pure]
    simp; omega
theorem allByte (l : List UInt8) : (l.map u8).all isByte = true := by
  induction l with
  | nil => rfl
  | cons a l ih => simp [u8, isByte, ih]
theorem toByte_u8 (l : List UInt8) : (l.map u8).map toByte = l := by
  induction l with
  | nil => rfl
  | cons a l ih => simp [u8, toByte, ih]
theorem cellsOf_eq (f : Nat → AVal) : ∀ (k off : Nat) (l : List AVal), l.length = k → (∀ j (hj : j < l.length), f (off + j) = l[j]) → cellsOf f off k = l := by
  intro k
  induction k with
  | zero => intro off l hl _; cases l with | nil => rfl | cons a l => simp at hl
  | succ k ih =>
    intro off l hl hf
    cases l with
    | nil => simp at hl
    | cons a l =>
      have h0 := hf 0 (by simp)
      simp only [cellsOf, Nat.add_zero, List.getElem_cons_zero] at h0 ⊢
      rw [h0, ih (off + 1) l (by simpa using hl) (fun j hj => by
        have := hf (j + 1) (by simpa using hj)
        rw [List.getElem_cons_succ] at this
        rw [← this]; congr 1; omega)]
theorem Cont.sub_eq {c : Cont} {off : Nat} {l : List AVal} (hs : off + l.length ≤ c.size) (hc : ∀ j (hj : j < l.length), c.at (off + j) = l[j]) : c.sub off l.length = l := by
  cases c with
  | f m g => exact cellsOf_eq g _ off l rfl hc
  | l xs =>
    show (xs.drop off).take l.length = l
    apply List.ext_getElem
    · simp [Cont.size] at hs ⊢; omega
    · intro j h1 h2
      rw [List.getElem_take, List.getElem_drop]
      have := hc j h2
      rw [Cont.at_l (by simp [Cont.size] at hs; omega)] at this
      exact this
/-- Its first k bytes, as cells. -/
theorem Bytes.cells {α : Type} {v : AVal} {l : List UInt8} (hb : Bytes h v l) {f : List AVal → M α} {Q : α → Hp → Nat → Prop} : Wp ((sliceCells 1 l.length v).bind f) h n Q ↔ Wp (f (l.map u8)) h n Q := by
  cases hb with
  | nils => simp only [sliceCells, bind_assoc, bind_pure, wp_ob, List.length_nil, List.map_nil]; simp
  | isl g off l hf =>
    simp only [sliceCells, sameSz, bind_assoc, bind_pure, wp_ob, Nat.mul_one, show (Nat.beq 1 1) = true from rfl]
    rw [cellsOf_eq g l.length off (l.map u8) (by simp) (fun j hj => by rw [hf j (by simpa using hj)]; simp)]
    simp
  | sl id off cap c e l hh hs hc =>
    simp only [sliceCells, sameSz, bind_assoc, wp_get, hh, Option.some.injEq, exists_eq_left', rowK, wp_ob, Nat.mul_one, show (Nat.beq 1 1) = true from rfl]
    have := Cont.sub_eq (c := c) (off := off) (l := l.map u8) (by simpa using hs) (fun j hj => by rw [hc j (by simpa using hj)]; simp)
    simp only [List.length_map] at this
    simp only [bind_assoc, wp_ob, bind_pure, this]
    simp [hs]
/-- string(b) -/
theorem Bytes.str {v : AVal} {l : List UInt8} (hb : Bytes h v l) {t t2 e : TypeId} (ht : und E t = M.pure (.slice e)) (h2 : und E t2 = M.pure .string) (he : und E e = M.pure (.int .u8)) :
    OpV E fn rnd Q ks ops rest d tm (convert E t t2 v) h n ↔ Ops E fn rnd Q ks ops rest (putT tm d (.str l)) h n := by
  have key : convert E t t2 v = convStr E e v := by
    cases hb <;> simp only [convert, ht, h2, bind_pure]
  rw [key]
  simp only [convStr, he, bind_pure, isU8, hb.len, OpV]
  rw [hb.cells]
  simp only [wp_ob, allByte, true_and, wp_pure, toByte_u8]
theorem byteCells_map (l : List UInt8) : byteCells l = l.map u8 := by
  induction l with
  | nil => rfl
  | cons a l ih => simp [byteCells, ih, u8]
/-- []byte(s) -/
theorem toBytes {l : List UInt8} {t t2 e : TypeId} {ie : TI} (ht : und E t = M.pure .string) (h2 : und E t2 = M.pure (.slice e)) (he : ti E e = M.pure ie) (hd : und E e = M.pure (.int .u8)) (hs : sizeOf E e = M.pure 1) :
    OpV E fn rnd Q ks ops rest d tm (convert E t t2 (.str l)) h n ↔ Ops E fn rnd Q ks ops rest (putT tm d (.sl n 0 l.length none 1)) (upd h n (some (.row (.l (l.map u8)) e))) (n + 1) := by
  simp only [convert, ht, h2, bind_pure, strK, newRow, he, hd, hs, sameSz, isU8, bind_assoc, opv_new, opv_pure, byteCells_map, show (Nat.beq 1 1) = true from rfl]
theorem Bytes.fresh {l : List UInt8} {e : TypeId} {cap : Option Nat} (hh : h n = some (.row (.l (l.map u8)) e)) : Bytes h (.sl n 0 l.length cap 1) l :=
  .sl n 0 cap _ e l hh (by simp [Cont.size]) (fun j hj => by rw [Nat.zero_add, Cont.at_l (by simpa using hj)]; simp)
/-- It stands for the same where nothing below was touched. -/
def Old (h h' : Hp) (n : Nat) : Prop := ∀ j, j < n → h' j = h j
/-- Its block, if any, is below n. -/
def Below0 (n : Nat) : AVal → Prop
  | .sl id _ _ _ _ => id < n
  | _ => True
theorem Bytes.old {v : AVal} {l : List UInt8} {h' : Hp} (hb : Bytes h v l) (hv : Below0 n v) (ho : Old h h' n) : Bytes h' v l := by
  cases hb with
  | nils => exact .nils
  | isl f off l hf => exact .isl f off l hf
  | sl id off cap c e l hh hs hc => exact .sl id off cap c e l (by rw [ho id hv]; exact hh) hs hc
theorem Old.refl (h : Hp) (n : Nat) : Old h h n := fun _ _ => rfl
theorem Old.trans {h1 h2 h3 : Hp} {n m : Nat} (a : Old h1 h2 n) (b : Old h2 h3 m) (hm : n ≤ m) : Old h1 h3 n := fun j hj => (b j (by omega)).trans (a j hj)
theorem Old.upd {h1 h2 : Hp} {n i : Nat} {b : Option Blk} (a : Old h1 h2 n) (hi : n ≤ i) : Old h1 (upd h2 i b) n := fun j hj => by rw [upd_ne _ _ (by omega)]; exact a j hj
theorem Below0.mono {n m : Nat} {v : AVal} (hv : Below0 n v) (hm : n ≤ m) : Below0 m v := by
  cases v <;> simp only [Below0] at hv ⊢ <;> omega

/-! ### An argument -/
def IsRow (k : IntKind) (w : World) (a : Option Addr) (len cap : Nat) (zs : List Int) : Prop :=
  (a = none ∧ len = 0 ∧ cap = 0 ∧ zs = []) ∨
  ∃ x, a = some x ∧ len ≤ cap ∧ cap ≤ maxLen ∧ zs.length = cap ∧ (∀ i, i < zs.length → w.cell? (x.add i) = some (.int k (zs.getD i 0))) ∧ ∀ n ∈ zs, (Lit.int k n).wf = true
def byteOf (z : Int) : UInt8 := UInt8.ofNat z.toNat
theorem byteOf_eq {z : Int} (hz : (Lit.int .u8 z).wf = true) : ((byteOf z).toNat : Int) = z := by
  simp only [Lit.wf, Bool.and_eq_true, decide_eq_true_eq] at hz
  have h1 : IntKind.u8.min = 0 := rfl
  have h2 : IntKind.u8.max = 255 := rfl
  rw [h1, h2] at hz
  unfold byteOf
  rw [UInt8.toNat_ofNat']
  have : z.toNat % 2 ^ 8 = z.toNat := Nat.mod_eq_of_lt (by omega)
  rw [this]; omega
/-- .. stands for bytes, in whatever heap. -/
structure ArgBytes (v : AVal) (l : List UInt8) : Prop where
  bytes : ∀ h, Bytes h v l
  below : ∀ n, Below0 n v
theorem isRow_arg {w : World} {a : Option Addr} {len cap : Nat} {zs : List Int} (hr : IsRow .u8 w a len cap zs) :
    ∃ v, ArgBytes v ((zs.take len).map byteOf) ∧ R (fun _ => none) (oldMem w) v (.slice a len cap) := by
  rcases hr with ⟨rfl, rfl, rfl, rfl⟩ | ⟨x, rfl, hl, hm, hz, hc, hw⟩
  · exact ⟨.nils, ⟨fun h => .nils, fun _ => trivial⟩, .nils⟩
  · cases len with
    | zero =>
      exact ⟨.isl (fun _ => .nils) 1 0 0, ⟨fun h => .isl _ 0 [] (fun j hj => absurd hj (by simp)), fun _ => trivial⟩, .isl0 _ _ _ _ x⟩
    | succ len =>
      obtain ⟨b, off, spot⟩ := x
      have h0 := hc 0 (by omega)
      have hspot : spot = none := by simpa [Addr.add] using World.cell?_spot h0
      subst hspot
      have hlen : ((zs.take (len + 1)).map byteOf).length = len + 1 := by simp; omega
      refine ⟨.isl (fun j => u8 (((zs.take (len + 1)).map byteOf).getD j 0)) 1 0 (len + 1), ⟨fun h => ?_, fun _ => trivial⟩, ?_⟩
      · have := Bytes.isl (h := h) (fun j => u8 (((zs.take (len + 1)).map byteOf).getD j 0)) 0 ((zs.take (len + 1)).map byteOf) (fun j hj => by
          rw [Nat.zero_add, getE_some hj])
        rw [hlen] at this
        exact this
      · refine .isl _ 1 0 (len + 1) b off cap (fun j => .int .u8 (zs.getD j 0)) (fun j hj => ?_) (fun j hj => ?_) hl
        · have := hc j (by omega)
          unfold Mem.cell oldMem
          have hadd : (Addr.add ⟨b, off, none⟩ j) = ⟨b, off + j, none⟩ := by
            unfold Addr.add
            split
            · rename_i h; subst h; rfl
            · rfl
          rw [hadd] at this
          simp only [World.cell?] at this
          revert this
          cases w.heap[b]? with
          | none => intro h; cases h
          | some o => cases o <;> simp
        · have hj' : j < ((zs.take (len + 1)).map byteOf).length := by rw [hlen]; omega
          show R _ _ (u8 _) _
          rw [getE_some hj']
          have e : zs.getD j 0 = ((byteOf (zs.getD j 0)).toNat : Int) := by
            rw [byteOf_eq (hw _ (by rw [List.getD_eq_getElem?_getD, List.getElem?_eq_getElem (by omega)]; simp))]
          simp only [u8, List.getElem_map, List.getElem_take]
          rw [e]
          have e2 : zs.getD j 0 = zs[j]'(by omega) := by rw [List.getD_eq_getElem?_getD, List.getElem?_eq_getElem (by omega)]; rfl
          rw [e2]
          exact .int _ _
end Go.Am
