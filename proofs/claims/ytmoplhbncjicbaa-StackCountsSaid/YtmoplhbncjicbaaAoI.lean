/- Feet that do not meet. -/
import Derived.Test.YtmoplhbncjicbaaAoH
set_option linter.unusedSimpArgs false
set_option linter.unusedVariables false
set_option linter.defProp false
namespace Go.Am
open Go Go.RowKit
variable {E : Env} {fn : FuncId} {rnd : Option Nat} {Q : Post0} {ks : List Kf} {tm : List AVal} {h : Hp} {n : Nat} {ops rest : List Oper} {d : Option Tmp}
theorem clash_pl (j n : Nat) (b : Foot) : clash ⟨j, [], [], n, n⟩ b = false := by
  simp only [clash, meets_nil, meets_nil', hits_nil, hits_same, Bool.or_false]
theorem clash_pr (a : Foot) (j n : Nat) : clash a ⟨j, [], [], n, n⟩ = false := by
  simp only [clash, meets_nil, meets_nil', hits_nil, hits_same, Bool.or_false]
theorem clash_rr (i j n m : Nat) (r s : List Nat) : clash ⟨i, r, [], n, n⟩ ⟨j, s, [], m, m⟩ = false := by
  simp only [clash, meets_nil, meets_nil', hits_same, Bool.or_false]
theorem clash_nn (i j a b c e : Nat) : clash ⟨i, [], [], a, b⟩ ⟨j, [], [], c, e⟩ = false := by
  simp only [clash, meets_nil, meets_nil', hits_nil, Bool.or_false]
theorem clash_rn (i j a b m : Nat) (r : List Nat) (hr : ∀ id, id ∈ r → id < a) : clash ⟨i, r, [], m, m⟩ ⟨j, [], [], a, b⟩ = false := by
  simp only [clash, meets_nil, meets_nil', hits_nil, hits_same, hits_low (f := ⟨j, [], [], a, b⟩) hr, Bool.or_false]
theorem clash_nr (i j a b m : Nat) (r : List Nat) (hr : ∀ id, id ∈ r → id < a) : clash ⟨j, [], [], a, b⟩ ⟨i, r, [], m, m⟩ = false := by
  simp only [clash, meets_nil, meets_nil', hits_nil, hits_same, hits_low (f := ⟨j, [], [], a, b⟩) hr, Bool.or_false]
theorem below_id {v : AVal} (hv : Below0 n v) : ∀ id, id ∈ (ownId v).toList → id < n := by
  intro id hid
  cases v <;> simp only [ownId, Option.toList] at hid <;> first | (simp at hid; done) | (simp only [List.mem_singleton] at hid; subst hid; exact hv)
/-- The first bytes of a row. -/
theorem Bytes.pre {id e : Nat} {cap : Option Nat} {l m : List UInt8} (hh : h id = some (.row (.l ((l ++ m).map u8)) e)) : Bytes h (.sl id 0 l.length cap 1) l :=
  .sl id 0 cap _ e l hh (by simp [Cont.size]) (fun j hj => by rw [Nat.zero_add, Cont.at_l (by simp; omega)]; simp [hj])
theorem free_hold {s : AVal} {h' : Hp} (hf : Free h n) (hid : ∀ j, ownId s = some j → j < n) (hold : ∀ j, j ≠ n → ownId s ≠ some j → h' j = h j) : Free h' (n + 1) := fun j hj => by
  rw [hold j (by omega) (fun e => by have := hid j e; omega)]
  exact hf j (by omega)
theorem foot_ob {α : Type} {j : Nat} {b : Bool} {f : Unit → M α} : foot j ((ob b).bind f) = (ob b).bind fun _ => foot j (f ()) := M.ext' fun s => by cases b <;> rfl
theorem fev_ob {j : Nat} {fs : List Foot} {b : Bool} {f : Unit → M AVal} : FeV E fn rnd Q ks ops j rest d tm fs ((ob b).bind f) h n ↔ b = true ∧ FeV E fn rnd Q ks ops j rest d tm fs (f ()) h n := by
  unfold FeV; rw [foot_ob, wp_ob]
def isNils : AVal → Bool
  | .nils => true
  | _ => false
theorem Bytes.nil {v : AVal} {l : List UInt8} (hb : Bytes h v l) : nilSl v = M.pure (isNils v) ∧ (isNils v = true → l = []) := by
  cases hb <;> exact ⟨rfl, fun h => by first | rfl | cases h⟩
theorem nilSl1 : nilSl .nils = M.pure true := rfl
theorem nilSl2 (i o l : Nat) (c : Option Nat) (z : Nat) : nilSl (.sl i o l c z) = M.pure false := rfl
theorem nilSl3 (f : Nat → AVal) (z o l : Nat) : nilSl (.isl f z o l) = M.pure false := rfl
theorem bo_int (op : BinOp) (t : TypeId) (k : IntKind) (a : Int) (y : AVal) : binOp E op t (.int k a) y = binInt op k a y := rfl
theorem bo_str (op : BinOp) (t : TypeId) (a : List UInt8) (y : AVal) : binOp E op t (.str a) y = strK (fun b => strOp op a b) y := rfl
theorem bo_bool (op : BinOp) (t : TypeId) (b : Bool) (y : AVal) : binOp E op t (.bool b) y = binOther E op t (.bool b) y := rfl
theorem bo_blit (op : BinOp) (t : TypeId) (b : Bool) (y : AVal) : binOp E op t (.blit b) y = binOther E op t (.blit b) y := rfl
theorem bo_nilp (op : BinOp) (t : TypeId)  (y : AVal) : binOp E op t (.nilp ) y = binOther E op t (.nilp ) y := rfl
theorem bo_nils (op : BinOp) (t : TypeId)  (y : AVal) : binOp E op t (.nils ) y = binOther E op t (.nils ) y := rfl
theorem bo_nilm (op : BinOp) (t : TypeId)  (y : AVal) : binOp E op t (.nilm ) y = binOther E op t (.nilm ) y := rfl
theorem bo_nilf (op : BinOp) (t : TypeId)  (y : AVal) : binOp E op t (.nilf ) y = binOther E op t (.nilf ) y := rfl
theorem bo_ptr (op : BinOp) (t : TypeId) (i o : Nat) (y : AVal) : binOp E op t (.ptr i o) y = binOther E op t (.ptr i o) y := rfl
theorem bo_sl (op : BinOp) (t : TypeId) (i o n : Nat) (c : Option Nat) (s : Nat) (y : AVal) : binOp E op t (.sl i o n c s) y = binOther E op t (.sl i o n c s) y := rfl
theorem bo_ip (op : BinOp) (t : TypeId) (f : Nat → AVal) (n o : Nat) (y : AVal) : binOp E op t (.ip f n o) y = binOther E op t (.ip f n o) y := rfl
theorem bo_isl (op : BinOp) (t : TypeId) (f : Nat → AVal) (s o n : Nat) (y : AVal) : binOp E op t (.isl f s o n) y = binOther E op t (.isl f s o n) y := rfl
theorem bo_fn (op : BinOp) (t : TypeId) (f : Fn) (a b : List AVal) (y : AVal) : binOp E op t (.fn f a b) y = binOther E op t (.fn f a b) y := rfl
theorem bo_map (op : BinOp) (t : TypeId) (i : Nat) (y : AVal) : binOp E op t (.map i) y = binOther E op t (.map i) y := rfl
theorem bo_agg (op : BinOp) (t : TypeId) (l : List AVal) (y : AVal) : binOp E op t (.agg l) y = binOther E op t (.agg l) y := rfl
def bor := (And.intro @bo_int (And.intro @bo_str (And.intro @bo_bool (And.intro @bo_blit (And.intro @bo_nilp (And.intro @bo_nils (And.intro @bo_nilm (And.intro @bo_nilf (And.intro @bo_ptr (And.intro @bo_sl (And.intro @bo_ip (And.intro @bo_isl (And.intro @bo_fn (And.intro @bo_map @bo_agg))))))))))))))
theorem Bytes.eqNil {v : AVal} {l : List UInt8} (hb : Bytes h v l) {t e : TypeId} (ht : und E t = M.pure (.slice e)) : binOp E .eql t v .nils = M.pure (.bool (isNils v)) := by
  have key : ∀ x y, equal E 100 t x y = (nilSl x).bind fun a => (nilSl y).bind fun b => match a || b with | true => M.pure (a && b) | false => fail "equal: slices" := by
    intro x y
    unfold equal
    rw [ht, bind_pure]
    rfl
  have k2 : binOther E .eql t v .nils = M.pure (.bool (isNils v)) := by
    unfold binOther equalTop
    simp only
    rw [key, hb.nil.1]
    simp only [bind_pure, nilSl1, Bool.or_true, Bool.and_true]
  cases hb <;> exact k2
/-- New bytes of one's own. -/
def New0 (h : Hp) (n : Nat) (l : List UInt8) (v : AVal) (h' : Hp) (n' : Nat) : Prop := ∃ e cnt, Own h' n' e 1 v cnt (l.map u8) ∧ (∀ j, ownId v = some j → n ≤ j) ∧ Old h h' n
theorem old_hold {s : AVal} {h' : Hp} {N : Nat} (hN : N ≤ n) (hs : ∀ j, ownId s = some j → N ≤ j) (hold : ∀ j, j ≠ n → ownId s ≠ some j → h' j = h j) : Old h h' N := fun j hj => hold j (by omega) (fun e => by have := hs j e; omega)
end Go.Am
