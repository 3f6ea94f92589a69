/- The abstract machine. -/
import Derived.Test.YtlgebaofkolkoaaAoH
set_option linter.unusedSimpArgs false
set_option linter.unusedVariables false
set_option linter.defProp false
namespace Go.Am
open Go Go.RowKit
variable {E : Env} {fn : FuncId} {rnd : Option Nat} {Q : eB} {ks : List Kf} {tm : List a9} {h : Hp} {n : Nat} {ops rest : List Oper} {d : Option Tmp}
theorem wA (j n : Nat) (b : fN) : fE ⟨j, [], [], n, n⟩ b = false := by
 simp only [fE, kM, jH, lD, mJ, Bool.or_false]
theorem vZ (a : fN) (j n : Nat) : fE a ⟨j, [], [], n, n⟩ = false := by
 simp only [fE, kM, jH, lD, mJ, Bool.or_false]
theorem vY (i j n m : Nat) (r s : List Nat) : fE ⟨i, r, [], n, n⟩ ⟨j, s, [], m, m⟩ = false := by
 simp only [fE, kM, jH, mJ, Bool.or_false]
theorem wD (i j a b c e : Nat) : fE ⟨i, [], [], a, b⟩ ⟨j, [], [], c, e⟩ = false := by
 simp only [fE, kM, jH, lD, Bool.or_false]
theorem Bytes.pre {id e : Nat} {cap : Option Nat} {l m : List UInt8} (hh : h id = some (.row (.l ((l ++ m).map u8)) e)) : Bytes h (.sl id 0 l.length cap 1) l :=
 .sl id 0 cap _ e l hh (by simp [bM.size]) (fun j hj => by rw [Nat.zero_add, bM.sT (by simp; omega)]; simp [hj])
theorem NQ {α : Type} {j : Nat} {b : Bool} {f : Unit → M α} : jI j ((ob b).bind f) = (ob b).bind fun _ => jI j (f ()) := M.ext' fun s => by cases b <;> rfl
theorem oC {j : Nat} {fs : List fN} {b : Bool} {f : Unit → M a9} : FeV E fn rnd Q ks ops j rest d tm fs ((ob b).bind f) h n ↔ b = true ∧ FeV E fn rnd Q ks ops j rest d tm fs (f ()) h n := by
 unfold FeV; rw [NQ, eL]
def lB : a9 → Bool
 | .nils => true
 | _ => false
theorem Bytes.nil {v : a9} {l : List UInt8} (hb : Bytes h v l) : nU v = M.pure (lB v) ∧ (lB v = true → l = []) := by
 cases hb <;> exact ⟨rfl, fun h => by first | rfl | cases h⟩
theorem dF : nU .nils = M.pure true := rfl
theorem dK (i o l : Nat) (c : Option Nat) (z : Nat) : nU (.sl i o l c z) = M.pure false := rfl
theorem dP (f : Nat → a9) (z o l : Nat) : nU (.isl f z o l) = M.pure false := rfl
theorem V0 (op : BinOp) (t : TypeId) (k : IntKind) (a : Int) (y : a9) : binOp E op t (.int k a) y = aJ op k a y := rfl
theorem UW (op : BinOp) (t : TypeId) (a : List UInt8) (y : a9) : binOp E op t (.str a) y = dH (fun b => strOp op a b) y := rfl
theorem OG (op : BinOp) (t : TypeId) (b : Bool) (y : a9) : binOp E op t (.bool b) y = aY E op t (.bool b) y := rfl
theorem OH (op : BinOp) (t : TypeId) (b : Bool) (y : a9) : binOp E op t (.blit b) y = aY E op t (.blit b) y := rfl
theorem OD (op : BinOp) (t : TypeId)  (y : a9) : binOp E op t (.nilp ) y = aY E op t (.nilp ) y := rfl
theorem OC (op : BinOp) (t : TypeId)  (y : a9) : binOp E op t (.nils ) y = aY E op t (.nils ) y := rfl
theorem OE (op : BinOp) (t : TypeId)  (y : a9) : binOp E op t (.nilm ) y = aY E op t (.nilm ) y := rfl
theorem OF (op : BinOp) (t : TypeId)  (y : a9) : binOp E op t (.nilf ) y = aY E op t (.nilf ) y := rfl
theorem UX (op : BinOp) (t : TypeId) (i o : Nat) (y : a9) : binOp E op t (.ptr i o) y = aY E op t (.ptr i o) y := rfl
theorem ZO (op : BinOp) (t : TypeId) (i o n : Nat) (c : Option Nat) (s : Nat) (y : a9) : binOp E op t (.sl i o n c s) y = aY E op t (.sl i o n c s) y := rfl
theorem ZP (op : BinOp) (t : TypeId) (f : Nat → a9) (n o : Nat) (y : a9) : binOp E op t (.ip f n o) y = aY E op t (.ip f n o) y := rfl
theorem UZ (op : BinOp) (t : TypeId) (f : Nat → a9) (s o n : Nat) (y : a9) : binOp E op t (.isl f s o n) y = aY E op t (.isl f s o n) y := rfl
theorem ZQ (op : BinOp) (t : TypeId) (f : Fn) (a b : List a9) (y : a9) : binOp E op t (.fn f a b) y = aY E op t (.fn f a b) y := rfl
theorem UY (op : BinOp) (t : TypeId) (i : Nat) (y : a9) : binOp E op t (.map i) y = aY E op t (.map i) y := rfl
theorem V1 (op : BinOp) (t : TypeId) (l : List a9) (y : a9) : binOp E op t (.agg l) y = aY E op t (.agg l) y := rfl
def bor := (And.intro @V0 (And.intro @UW (And.intro @OG (And.intro @OH (And.intro @OD (And.intro @OC (And.intro @OE (And.intro @OF (And.intro @UX (And.intro @ZO (And.intro @ZP (And.intro @UZ (And.intro @ZQ (And.intro @UY @V1))))))))))))))
theorem Bytes.B9 {v : a9} {l : List UInt8} (hb : Bytes h v l) {t e : TypeId} (ht : und E t = M.pure (.slice e)) : binOp E .eql t v .nils = M.pure (.bool (lB v)) := by
 have key : ∀ x y, equal E 100 t x y = (nU x).bind fun a => (nU y).bind fun b => match a || b with | true => M.pure (a && b) | false => fail "equal: slices" := by
  intro x y
  unfold equal
  rw [ht, bind_pure]
  rfl
 have k2 : aY E .eql t v .nils = M.pure (.bool (lB v)) := by
  unfold aY bG
  simp only
  rw [key, hb.nil.1]
  simp only [bind_pure, dF, Bool.or_true, Bool.and_true]
 cases hb <;> exact k2
end Go.Am
