/- The abstract machine. -/
import Derived.Test.YtlgebaofkolkoaaAoD
set_option linter.unusedSimpArgs false
set_option linter.unusedVariables false
set_option linter.defProp false
namespace Go.Am
open Go Go.RowKit
variable {E : Env} {fn : FuncId} {rnd : Option Nat} {Q : eB} {ks : List Kf} {tm : List a9} {h : Hp} {n : Nat} {ops rest : List Oper} {d : Option Tmp}
theorem MI {ρ : Ren} {m : Mem} (l : List a9) (xs : Array Value) (hv : RV ρ m l xs.toList) : RL ρ m l xs := by
  have := hv.list
  simpa using this
def u8 (b : UInt8) : a9 := .int .u8 (b.toNat : Int)
inductive Bytes (h : Hp) : a9 → List UInt8 → Prop
  | nils : Bytes h .nils []
  | isl (f : Nat → a9) (off : Nat) (l : List UInt8) (hf : ∀ j (hj : j < l.length), f (off + j) = u8 l[j]) : Bytes h (.isl f 1 off l.length) l
  | sl (id off : Nat) (cap : Option Nat) (c : bM) (e : TypeId) (l : List UInt8) (hh : h id = some (.row c e)) (hs : off + l.length ≤ c.size) (hc : ∀ j (hj : j < l.length), c.at (off + j) = u8 l[j]) : Bytes h (.sl id off l.length cap 1) l
theorem Bytes.len {v : a9} {l : List UInt8} (hb : Bytes h v l) : lenOf v = M.pure l.length := by
  cases hb <;> rfl
theorem Bytes.cI {v : a9} {l : List UInt8} (hb : Bytes h v l) {t : TypeId} {ts : List TypeId} {e : TypeId} (ht : und E t = M.pure (.slice e)) : cI E (t :: ts) v = M.pure (.int .i64 l.length) := by
  cases hb <;> simp only [Am.cI, ht, bind_pure, lenOf, List.length_nil] <;> rfl
def addrOf (i : Nat) : a9 → a9
  | .isl g sz off len => .ip g (off + len * sz) (off + i)
  | .sl id off _ _ _ => .ptr id (off + i)
  | v => v
theorem tH (f : Nat → a9) (off : Nat) : cellsOf f off 1 = [f off] := rfl
theorem Bytes.index {v : a9} {l : List UInt8} (hb : Bytes h v l) {t e : TypeId} (ht : und E t = M.pure (.slice e)) (he : sizeOf E e = M.pure 1) {k : IntKind} {i : Int} :
    OpV E fn rnd Q ks ops rest d tm (indexAddr E t v (.int k i)) h n ↔ (0 ≤ i ∧ i < l.length) ∧ Ops E fn rnd Q ks ops rest (aC tm d (addrOf i.toNat v)) h n := by
  cases hb with
  | nils => simp only [indexAddr, ht, he, bind_pure, cP, slK, AM, List.length_nil]; constructor
            · exact False.elim
            · rintro ⟨⟨a, b⟩, _⟩; exact absurd b (by simp; omega)
  | isl f off l hf => simp only [indexAddr, ht, he, bind_pure, cP, slK, idx, bind_assoc, nR, iO, addrOf, decide_eq_true_eq, Nat.mul_one, show (Nat.beq 1 1) = true from rfl]
  | sl id off cap c e l hh hs hc => simp only [indexAddr, ht, he, bind_pure, cP, slK, idx, bind_assoc, nR, iO, addrOf, decide_eq_true_eq, Nat.mul_one, show (Nat.beq 1 1) = true from rfl]
theorem bM.sT {xs : List a9} {i : Nat} (hi : i < xs.length) : (bM.l xs).at i = xs[i] := by
  show nth xs i .junk = xs[i]
  induction xs generalizing i with
  | nil => simp at hi
  | cons a xs ih =>
    cases i with
    | zero => rfl
    | succ i => simp only [nth, List.getElem_cons_succ]; exact ih (by simpa using hi)
theorem bM.sub_one {c : bM} {o : Nat} (ho : o < c.size) : c.sub o 1 = [c.at o] := by
  cases c with
  | f m g => rfl
  | l xs =>
    rw [bM.sT ho]
    show (xs.drop o).take 1 = [xs[o]]
    rw [List.drop_eq_getElem_cons ho]; rfl
theorem Bytes.load {v : a9} {l : List UInt8} (hb : Bytes h v l) {e : TypeId} {i : TI} (he : ti E e = M.pure i) (ha : eD i.desc = false) {j : Nat} (hj : j < l.length) :
    OpV E fn rnd Q ks ops rest d tm (load E e (addrOf j v)) h n ↔ Ops E fn rnd Q ks ops rest (aC tm d (u8 l[j])) h n := by
  cases hb with
  | nils => simp at hj
  | isl f off l hf =>
    simp only [Am.load, he, ha, bind_pure, addrOf, bF, bind_assoc, nR, tH, oneOf, iO, hf j hj]
    simp; omega
  | sl id off cap c e l hh hs hc =>
    simp only [Am.load, he, ha, bind_pure, addrOf, bF, bind_assoc, E9, hh, Option.some.injEq, exists_eq_left', cO, nR]
    rw [bM.sub_one (by omega), hc j hj]
    simp only [oneOf, iO]
    simp; omega
theorem rV (l : List UInt8) : (l.map u8).all isByte = true := by
  induction l with
  | nil => rfl
  | cons a l ih => simp [u8, isByte, ih]
theorem kJ (l : List UInt8) : (l.map u8).map toByte = l := by
  induction l with
  | nil => rfl
  | cons a l ih => simp [u8, toByte, ih]
theorem jL (f : Nat → a9) : ∀ (k off : Nat) (l : List a9), l.length = k → (∀ j (hj : j < l.length), f (off + j) = l[j]) → cellsOf f off k = l := by
  intro k
  induction k with
  | zero => intro off l hl _; cases l with | nil => rfl | cons a l => simp at hl
  | succ k ih =>
    intro off l hl hf
    cases l with
    | nil => simp at hl
    | cons a l =>
      have h0 := hf 0 (by simp)
      simp only [cellsOf, Nat.add_zero, List.getElem_cons_zero] at h0 ⊢
      rw [h0, ih (off + 1) l (by simpa using hl) (fun j hj => by
        have := hf (j + 1) (by simpa using hj)
        rw [List.getElem_cons_succ] at this
        rw [← this]; congr 1; omega)]
theorem bM.sub_eq {c : bM} {off : Nat} {l : List a9} (hs : off + l.length ≤ c.size) (hc : ∀ j (hj : j < l.length), c.at (off + j) = l[j]) : c.sub off l.length = l := by
  cases c with
  | f m g => exact jL g _ off l rfl hc
  | l xs =>
    show (xs.drop off).take l.length = l
    apply List.ext_getElem
    · simp [bM.size] at hs ⊢; omega
    · intro j h1 h2
      rw [List.getElem_take, List.getElem_drop]
      have := hc j h2
      rw [bM.sT (by simp [bM.size] at hs; omega)] at this
      exact this
theorem Bytes.cells {α : Type} {v : a9} {l : List UInt8} (hb : Bytes h v l) {f : List a9 → M α} {Q : α → Hp → Nat → Prop} : Wp ((dO 1 l.length v).bind f) h n Q ↔ Wp (f (l.map u8)) h n Q := by
  cases hb with
  | nils => simp only [dO, bind_assoc, bind_pure, eL, List.length_nil, List.map_nil]; simp
  | isl g off l hf =>
    simp only [dO, bN, bind_assoc, bind_pure, eL, Nat.mul_one, show (Nat.beq 1 1) = true from rfl]
    rw [jL g l.length off (l.map u8) (by simp) (fun j hj => by rw [hf j (by simpa using hj)]; simp)]
    simp
  | sl id off cap c e l hh hs hc =>
    simp only [dO, bN, bind_assoc, eW, hh, Option.some.injEq, exists_eq_left', cO, eL, Nat.mul_one, show (Nat.beq 1 1) = true from rfl]
    have := bM.sub_eq (c := c) (off := off) (l := l.map u8) (by simpa using hs) (fun j hj => by rw [hc j (by simpa using hj)]; simp)
    simp only [List.length_map] at this
    simp only [bind_assoc, eL, bind_pure, this]
    simp [hs]
theorem Bytes.str {v : a9} {l : List UInt8} (hb : Bytes h v l) {t t2 e : TypeId} (ht : und E t = M.pure (.slice e)) (h2 : und E t2 = M.pure .string) (he : und E e = M.pure (.int .u8)) :
    OpV E fn rnd Q ks ops rest d tm (convert E t t2 v) h n ↔ Ops E fn rnd Q ks ops rest (aC tm d (.str l)) h n := by
  have key : convert E t t2 v = gX E e v := by
    cases hb <;> simp only [convert, ht, h2, bind_pure]
  rw [key]
  simp only [gX, he, bind_pure, qD, hb.len, OpV]
  rw [hb.cells]
  simp only [eL, rV, true_and, wp_pure, kJ]
theorem Bytes.fresh {l : List UInt8} {e : TypeId} {cap : Option Nat} (hh : h n = some (.row (.l (l.map u8)) e)) : Bytes h (.sl n 0 l.length cap 1) l :=
  .sl n 0 cap _ e l hh (by simp [bM.size]) (fun j hj => by rw [Nat.zero_add, bM.sT (by simpa using hj)]; simp)
def Old (h h' : Hp) (n : Nat) : Prop := ∀ j, j < n → h' j = h j
def m9 (n : Nat) : a9 → Prop
  | .sl id _ _ _ _ => id < n
  | _ => True
theorem Bytes.old {v : a9} {l : List UInt8} {h' : Hp} (hb : Bytes h v l) (hv : m9 n v) (ho : Old h h' n) : Bytes h' v l := by
  cases hb with
  | nils => exact .nils
  | isl f off l hf => exact .isl f off l hf
  | sl id off cap c e l hh hs hc => exact .sl id off cap c e l (by rw [ho id hv]; exact hh) hs hc
theorem Old.refl (h : Hp) (n : Nat) : Old h h n := fun _ _ => rfl
theorem Old.trans {h1 h2 h3 : Hp} {n m : Nat} (a : Old h1 h2 n) (b : Old h2 h3 m) (hm : n ≤ m) : Old h1 h3 n := fun j hj => (b j (by omega)).trans (a j hj)
theorem Old.upd {h1 h2 : Hp} {n i : Nat} {b : Option Blk} (a : Old h1 h2 n) (hi : n ≤ i) : Old h1 (upd h2 i b) n := fun j hj => by rw [aR _ _ (by omega)]; exact a j hj
theorem m9.mono {n m : Nat} {v : a9} (hv : m9 n v) (hm : n ≤ m) : m9 m v := by
  cases v <;> simp only [m9] at hv ⊢ <;> omega
def byteOf (z : Int) : UInt8 := UInt8.ofNat z.toNat
theorem yE {z : Int} (hz : (Lit.int .u8 z).wf = true) : ((byteOf z).toNat : Int) = z := by
  simp only [Lit.wf, Bool.and_eq_true, decide_eq_true_eq] at hz
  have h1 : IntKind.u8.min = 0 := rfl
  have h2 : IntKind.u8.max = 255 := rfl
  rw [h1, h2] at hz
  unfold byteOf
  rw [UInt8.toNat_ofNat']
  have : z.toNat % 2 ^ 8 = z.toNat := Nat.mod_eq_of_lt (by omega)
  rw [this]; omega
structure C4 (v : a9) (l : List UInt8) : Prop where
  bytes : ∀ h, Bytes h v l
  below : ∀ n, m9 n v
end Go.Am
