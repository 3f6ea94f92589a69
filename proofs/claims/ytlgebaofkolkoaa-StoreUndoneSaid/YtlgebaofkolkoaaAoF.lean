/- The abstract machine. -/
import Derived.Test.YtlgebaofkolkoaaAoE
set_option linter.unusedSimpArgs false
set_option linter.unusedVariables false
set_option linter.defProp false
namespace Go.Am
open Go Go.RowKit
variable {E : Env} {fn : FuncId} {rnd : Option Nat} {Q : eB} {ks : List Kf} {tm : List a9} {h : Hp} {n : Nat} {ops rest : List Oper} {d : Option Tmp}
inductive Own (h : Hp) (n : Nat) (e : TypeId) (sz : Nat) : a9 → Nat → List a9 → Prop
  | nil : Own h n e sz .nils 0 []
  | sl (id cnt : Nat) (xs : List a9) (hid : id < n) (hh : h id = some (.row (.l xs) e)) (hl : xs.length = cnt * sz) : Own h n e sz (.sl id 0 cnt none sz) cnt xs
  | full (id cnt : Nat) (xs : List a9) (e' : TypeId) (hid : id < n) (hh : h id = some (.row (.l xs) e')) (hl : xs.length = cnt * sz) : Own h n e sz (.sl id 0 cnt (some cnt) sz) cnt xs
def bD : a9 → Option Nat
  | .sl id _ _ _ _ => some id
  | _ => none
theorem Own.len {e : TypeId} {sz cnt : Nat} {v : a9} {xs : List a9} (ho : Own h n e sz v cnt xs) : lenOf v = M.pure cnt := by cases ho <;> rfl
theorem Own.length {e : TypeId} {sz cnt : Nat} {v : a9} {xs : List a9} (ho : Own h n e sz v cnt xs) : xs.length = cnt * sz := by cases ho with | nil => simp | sl id cnt xs hid hh hl => exact hl | full id cnt xs e' hid hh hl => exact hl
theorem Own.below {e : TypeId} {sz cnt : Nat} {v : a9} {xs : List a9} (ho : Own h n e sz v cnt xs) : m9 n v := by cases ho with | nil => trivial | sl id cnt xs hid hh hl => exact hid | full id cnt xs e' hid hh hl => exact hid
theorem Own.aT {e : TypeId} {sz cnt : Nat} {v : a9} {xs : List a9} {h' : Hp} {n' : Nat} (ho : Own h n e sz v cnt xs) (hn : n ≤ n') (hk : ∀ j, bD v = some j → h' j = h j) : Own h' n' e sz v cnt xs := by
  cases ho with
  | nil => exact .nil
  | sl id cnt xs hid hh hl => exact .sl id cnt xs (by omega) (by rw [hk id rfl]; exact hh) hl
  | full id cnt xs e' hid hh hl => exact .full id cnt xs e' (by omega) (by rw [hk id rfl]; exact hh) hl
theorem Own.bytes {e : TypeId} {cnt : Nat} {v : a9} {l : List UInt8} (ho : Own h n e 1 v cnt (l.map u8)) : Bytes h v l := by
  have hl := ho.length
  simp only [List.length_map, Nat.mul_one] at hl
  generalize hx : l.map u8 = xs at ho
  cases ho with
  | nil => have : l = [] := by simpa using hx
           subst this; exact .nils
  | sl id cnt xs hid hh hl2 =>
    subst hl; subst hx
    exact .fresh (n := id) hh
  | full id cnt xs e' hid hh hl2 =>
    subst hl; subst hx
    exact .fresh (n := id) hh
theorem gP {a b : Nat} (hh : ¬ a ≤ b) : a.ble b = false := by
  cases hc : a.ble b with
  | false => rfl
  | true => exact absurd (Nat.le_of_ble_eq_true hc) hh
theorem cT {a b : Nat} (hh : a ≤ b) : a.ble b = true := Nat.ble_eq_true_of_le hh
theorem jM {a b : Nat} (hh : ¬ a = b) : a.beq b = false := by
  cases hc : a.beq b with
  | false => rfl
  | true => exact absurd (Nat.eq_of_beq_eq_true hc) hh
theorem sE (l : List UInt8) : (l.map u8).all bJ = true := by
  induction l with
  | nil => rfl
  | cons a l ih => simp [u8, bJ, ih]
theorem mC {f : Operand} {ps : Array Tmp} {a b : Code} {g : FuncId} {first cap : List a9} (hf : opd tm f = .fn (.func g) first cap) (hg : (E.funcs.find g).f.beq g = true)
    (hw : Wp (bT E (evalW E) g (first ++ [a9.fn (.yield n) [] []] ++ cap)) (upd h n (some (.loop { state := .ready, pending := none, fn := fn, tmps := tm, params := ps.toList, assign := a, body := b }))) (n + 1) fun v h' n' =>
      ∃ l, h' n = some (.loop l) ∧ l.state ≠ .busy ∧ ∃ e, (match l.pending with | none => e = .normal | some .ret => e = .ret | some (.exit j) => e = .exit j | _ => False) ∧
        dL E fn none Q ks e tm (upd h' n (some (.loop { l with state := .exhausted }))) n') :
    Run E fn none Q (.rangeFunc f ps a b) ks tm h n := by
  unfold Run; rw [iJ]
  simp only [step, hf, hg, bind_pure, dG, LX]
  refine wp_mono hw fun v h' n' ⟨l, hl, hb, e, he, hk⟩ => ?_
  simp only [CG, eW, hl, Option.some.injEq, exists_eq_left', dM]
  cases hs : l.state with
  | busy => exact absurd hs hb
  | _ =>
    simp only [kO, hl, ne_eq, reduceCtorEq, not_false_eq_true, true_and]
    cases hp : l.pending with
    | none => rw [hp] at he; simp only at he; subst he; rw [hp] at hk; simp only [wp_pure]; exact hk
    | some c =>
      rw [hp] at he
      cases c with
      | ret => simp only at he; subst he; rw [hp] at hk; simp only [wp_pure]; exact hk
      | exit j => simp only at he; subst he; rw [hp] at hk; simp only [wp_pure]; exact hk
      | _ => exact he.elim
def bO : Code → List Code
  | .seq a b => bO a ++ bO b
  | .cond _ a b => bO a ++ bO b
  | .block _ c => bO c
  | .loop c => c :: bO c
  | .scope c => bO c
  | .rangeFunc _ _ a b => bO a ++ bO b
  | _ => []
def cS : Code → List (Code × Code)
  | .seq a b => cS a ++ cS b
  | .cond _ a b => cS a ++ cS b
  | .block _ c => cS c
  | .loop c => cS c
  | .scope c => cS c
  | .rangeFunc _ _ a b => (a, b) :: (cS a ++ cS b)
  | _ => []
end Go.Am
