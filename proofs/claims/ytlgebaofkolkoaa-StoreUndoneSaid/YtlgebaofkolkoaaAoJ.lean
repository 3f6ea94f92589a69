/- The abstract machine. -/
import Derived.Test.YtlgebaofkolkoaaAoI
set_option linter.unusedSimpArgs false
set_option linter.unusedVariables false
set_option linter.defProp false
namespace Go.Am
open Go Go.RowKit
variable {E : Env} {fn : FuncId} {rnd : Option Nat} {Q : eB} {ks : List Kf} {tm : List a9} {h : Hp} {n : Nat} {ops rest : List Oper} {d : Option Tmp}
theorem aN {m : M a9} {ids : List Nat} {v : a9} (hr : Rd m h n ids v) : OpV E fn rnd Q ks ops rest d tm m h n ↔ Ops E fn rnd Q ks ops rest (aC tm d v) h n := uA hr.wp _ _ _ _ _ _ _ _ _
def jR (lo hi : Nat) : a9 → a9
 | .isl g sz off len => .isl g sz (off + lo * sz) (hi - lo)
 | .sl id off len cap sz => .sl id (off + lo * sz) (hi - lo) (match cap with | some c => some (c - lo) | none => none) sz
 | v => v
theorem Bytes.sub {v : a9} {l : List UInt8} (hb : Bytes h v l) {lo hi : Nat} (h1 : lo ≤ hi) (h2 : hi ≤ l.length) : Bytes h (jR lo hi v) ((l.take hi).drop lo) := by
 have hlen : ((l.take hi).drop lo).length = hi - lo := by simp; omega
 cases hb with
 | nils =>
  have : hi = 0 := by simpa using h2
  subst this
  have : lo = 0 := by omega
  subst this
  exact .nils
 | isl f off l hf =>
  have := Bytes.isl (h := h) f (off + lo * 1) ((l.take hi).drop lo) (fun j hj => by
   rw [hlen] at hj
   have := hf (lo + j) (by omega)
   rw [Nat.mul_one, Nat.add_assoc, this]
   simp)
  rw [hlen] at this
  exact this
 | sl id off cap c e l hh hs hc =>
  have := Bytes.sl (h := h) id (off + lo * 1) (match cap with | some c => some (c - lo) | none => none) c e ((l.take hi).drop lo) hh (by rw [hlen]; omega) (fun j hj => by
   rw [hlen] at hj
   have := hc (lo + j) (by omega)
   rw [Nat.mul_one, Nat.add_assoc, this]
   simp)
  rw [hlen] at this
  exact this
theorem m9.sub {v : a9} (hv : m9 n v) (lo hi : Nat) : m9 n (jR lo hi v) := by cases v <;> exact hv
def Roomy : a9 → Prop
 | .sl _ _ len (some c) _ => len ≤ c
 | _ => True
theorem Bytes.yS {v : a9} {l : List UInt8} (hb : Bytes h v l) {t e : TypeId} (ht : und E t = M.pure (.slice e)) (he : sizeOf E e = M.pure 1) {k1 : IntKind} {lo : Int} (h0 : 0 ≤ lo) (h1 : lo ≤ l.length) :
  Rd (slice E t v (some (.int k1 lo)) none none) h n [] (jR lo.toNat l.length v) := by
 cases hb with
 | nils =>
  have e2 : lo = 0 := by simp at h1; omega
  subst e2
  simp only [slice, ht, he, bind_pure, bound, cP, bind_assoc]
  exact Rd.bind (i2 := []) (Rd.ob (by simp)) (Rd.pure _)
 | isl f off l hf =>
  simp only [slice, ht, he, bind_pure, bound, cP, bind_assoc, bN, show (Nat.beq 1 1) = true from rfl]
  exact Rd.bind (i2 := []) (Rd.ob (by simp; omega)) (Rd.pure _)
 | sl id off cap c e l hh hs hc =>
  cases cap with
  | none =>
   simp only [slice, k9, ht, he, bind_pure, bound, cP, bind_assoc, bN, show (Nat.beq 1 1) = true from rfl]
   exact Rd.bind (i2 := []) (Rd.ob (by simp; omega)) (Rd.pure _)
  | some cc =>
   simp only [slice, ht, he, bind_pure, bound, cP, bind_assoc, bN, show (Nat.beq 1 1) = true from rfl]
   exact Rd.bind (i2 := []) (Rd.ob (by simp; omega)) (Rd.pure _)
theorem Roomy.sub {v : a9} {l : List UInt8} (hb : Bytes h v l) (hr : Roomy v) {lo hi : Nat} (h1 : lo ≤ hi) (h2 : hi ≤ l.length) : Roomy (jR lo hi v) := by
 cases hb with
 | nils => trivial
 | isl f off l hf => trivial
 | sl id off cap c e l hh hs hc =>
  cases cap with
  | none => trivial
  | some cc =>
   have : l.length ≤ cc := hr
   show hi - lo ≤ cc - lo
   omega
theorem Bytes.aT {h h' : Hp} {v : a9} {l : List UInt8} (hb : Bytes h v l) (hk : ∀ j, bD v = some j → h' j = h j) : Bytes h' v l := by
 cases hb with
 | nils => exact .nils
 | isl f off l hf => exact .isl f off l hf
 | sl id off cap c e l hh hs hc => exact .sl id off cap c e l (by rw [hk id rfl]; exact hh) hs hc
end Go.Am
