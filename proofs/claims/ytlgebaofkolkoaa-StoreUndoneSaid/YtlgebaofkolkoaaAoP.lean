/- The abstract machine. -/
import Derived.Test.YtlgebaofkolkoaaAoN
set_option linter.unusedSimpArgs false
set_option linter.unusedVariables false
set_option linter.defProp false
namespace Go.Am
open Go Go.RowKit
variable {E : Env} {fn : FuncId} {rnd : Option Nat} {Q : eB} {ks : List Kf} {tm : List a9} {h : Hp} {n : Nat} {ops rest : List Oper} {d : Option Tmp}
def m5 (k : IntKind) (m : Nat) (g : Nat → Int) : List a9 := (List.range m).map fun j => .int k (g j)
theorem nB (k : IntKind) (m : Nat) (g : Nat → Int) : (m5 k m g).length = m := by simp [m5]
theorem DJ {k : IntKind} {m : Nat} {g f : Nat → Int} (hfg : ∀ j, j < m → g j = f j) : m5 k m g = m5 k m f := by
 unfold m5
 refine List.map_congr_left fun j hj => ?_
 rw [hfg j (List.mem_range.1 hj)]
theorem nC (k : IntKind) {m j : Nat} (g : Nat → Int) (hj : j < m) : (m5 k m g)[j]? = some (.int k (g j)) := by
 unfold m5
 rw [List.getElem?_map, List.getElem?_range hj]; rfl
theorem IE (xs : List a9) (v : a9) : ∀ (i j : Nat), (put xs i v)[j]? = if j = i ∧ i < xs.length then some v else xs[j]? := by
 induction xs with
 | nil => intro i j; simp [put]
 | cons a xs ih =>
  intro i j
  cases i with
  | zero => cases j <;> simp [put]
  | succ i =>
   cases j with
   | zero => simp [put]
   | succ j => simp only [put, List.getElem?_cons_succ, ih i j, List.length_cons]; simp
theorem DI (k : IntKind) {m i : Nat} (g : Nat → Int) (z : Int) (hi : i < m) : put (m5 k m g) i (.int k z) = m5 k m (fun x => if x = i then z else g x) := by
 refine List.ext_getElem? fun j => ?_
 rw [IE, nB]
 by_cases hj : j < m
 ·rw [nC k _ hj]
  by_cases e : j = i
  ·rw [if_pos ⟨e, hi⟩, nC k _ hj]
   simp only [if_pos e]
  ·rw [if_neg (fun q => e q.1), nC k _ hj]
   simp only [if_neg e]
 ·rw [if_neg (fun q => hj (by omega)), List.getElem?_eq_none (by rw [nB]; omega), List.getElem?_eq_none (by rw [nB]; omega)]
def nF (k : IntKind) (h : Hp) (v : a9) (id off m tot : Nat) (g : Nat → Int) : Prop := (∃ cap, v = .sl id off m cap 1) ∧ off + m ≤ tot ∧ ∃ e, h id = some (.row (.l (m5 k tot g)) e)
theorem nF.ext {k : IntKind} {v : a9} {id off m tot : Nat} {g f : Nat → Int} (hi : nF k h v id off m tot g) (hfg : ∀ j, j < tot → g j = f j) : nF k h v id off m tot f := by
 obtain ⟨a, b, e, c⟩ := hi
 exact ⟨a, b, e, by rw [c, DJ hfg]⟩
theorem nF.aT {k : IntKind} {v : a9} {id off m tot : Nat} {g : Nat → Int} {h' : Hp} (hi : nF k h v id off m tot g) (hk : h' id = h id) : nF k h' v id off m tot g := by
 obtain ⟨a, b, e, c⟩ := hi
 exact ⟨a, b, e, hk.trans c⟩
theorem nF.upd {k : IntKind} {v : a9} {id off m tot i : Nat} {g : Nat → Int} {b : Option Blk} (hi : nF k h v id off m tot g) (hk : id ≠ i) : nF k (Go.Am.upd h i b) v id off m tot g := hi.aT (aR _ _ hk)
theorem nF.len {k : IntKind} {v : a9} {id off m tot : Nat} {g : Nat → Int} (hi : nF k h v id off m tot g) {t e : TypeId} {ts : List TypeId} (ht : und E t = M.pure (.slice e)) : cI E (t :: ts) v = M.pure (.int .i64 (m : Nat)) := by
 obtain ⟨⟨cap, rfl⟩, _⟩ := hi
 simp only [cI, ht, bind_pure, lenOf]
theorem nF.idx {k : IntKind} {v : a9} {id off m tot : Nat} {g : Nat → Int} (hi : nF k h v id off m tot g) {t e : TypeId} (ht : und E t = M.pure (.slice e)) (he : sizeOf E e = M.pure 1) {kk : IntKind} {z : Int} {j : Nat} (hz : z = (j : Nat)) (hj : j < m) {h' : Hp} {n' : Nat} : Rd (indexAddr E t v (.int kk z)) h' n' [] (.ptr id (off + j)) := by
 obtain ⟨⟨cap, rfl⟩, _⟩ := hi
 subst hz
 simp only [indexAddr, ht, he, bind_pure, cP, slK, Go.Am.idx, bind_assoc, Nat.beq_refl, Int.toNat_natCast, Nat.mul_one]
 exact Rd.bind (i2 := []) (Rd.ob (by simp; omega)) (Rd.pure _)
theorem nF.load {k : IntKind} {v : a9} {id off m tot : Nat} {g : Nat → Int} (hi : nF k h v id off m tot g) {e : TypeId} {i : TI} (he : ti E e = M.pure i) (ha : eD i.desc = false) {j : Nat} (hj : j < m) : Rd (load E e (.ptr id (off + j))) h n [id] (.int k (g (off + j))) := by
 obtain ⟨_, b, e', c⟩ := hi
 exact ES c (nC k g (by omega)) he ha
theorem nF.store {k : IntKind} {v : a9} {id off m tot : Nat} {g : Nat → Int} (hi : nF k h v id off m tot g) {e : TypeId} {i : TI} (he : ti E e = M.pure i) (hs : i.size = 1) {j : Nat} (hj : j < m) {z : Int}
  (hq : ∀ b, nF k (Go.Am.upd h id (some b)) v id off m tot (fun x => if x = off + j then z else g x) → Ops E fn rnd Q ks ops rest (aC tm d undef) (Go.Am.upd h id (some b)) n) :
  OpV E fn rnd Q ks ops rest d tm (kF E e (.ptr id (off + j)) (.int k z)) h n := by
 obtain ⟨a, b, e', c⟩ := hi
 simp only [kF, Go.Am.store, he, bind_pure, a9.cells, hs, List.length_singleton, show Nat.beq 1 1 = true from rfl, dN, bind_assoc, OpV, eW, c, Option.some.injEq, exists_eq_left', cO, eL, List.all_cons, List.all_nil, bJ, Bool.and_true, kO, wp_pure, jZ, bM.size, bM.set, nB]
 refine ⟨cT (by omega), by simp, hq _ ⟨a, b, e', ?_⟩⟩
 rw [aU, DI k g z (by omega)]
def bit (a j : Nat) : Int := ((a / 2 ^ j % 2 : Nat) : Int)
end Go.Am
