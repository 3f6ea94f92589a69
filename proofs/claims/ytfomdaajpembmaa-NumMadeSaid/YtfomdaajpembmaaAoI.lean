/- Feet that do not meet. -/
import Derived.Test.YtfomdaajpembmaaAoH
set_option linter.unusedSimpArgs false
set_option linter.unusedVariables false
set_option linter.defProp false
namespace Go.Am
open Go Go.RowKit
variable {E : Env} {fn : FuncId} {rnd : Option Nat} {Q : Post0} {ks : List Kf} {tm : List AVal} {h : Hp} {n : Nat} {ops rest : List Oper} {d : Option Tmp}
theorem clash_pl (j n : Nat) (b : Foot) : clash ⟨j, [], [], n, n⟩ b = false := by
  simp only [clash, meets_nil, meets_nil', hits_nil, hits_same, Bool.or_false]
theorem clash_pr (a : Foot) (j n : Nat) : clash a ⟨j, [], [], n, n⟩ = false := by
  simp only [clash, meets_nil, meets_nil', hits_nil, hits_same, Bool.or_false]
theorem clash_rr (i j n m : Nat) (r s : List Nat) : clash ⟨i, r, [], n, n⟩ ⟨j, s, [], m, m⟩ = false := by
  simp only [clash, meets_nil, meets_nil', hits_same, Bool.or_false]
theorem clash_nn (i j a b c e : Nat) : clash ⟨i, [], [], a, b⟩ ⟨j, [], [], c, e⟩ = false := by
  simp only [clash, meets_nil, meets_nil', hits_nil, Bool.or_false]
theorem clash_rn (i j a b m : Nat) (r : List Nat) (hr : ∀ id, id ∈ r → id < a) : clash ⟨i, r, [], m, m⟩ ⟨j, [], [], a, b⟩ = false := by
  simp only [clash, meets_nil, meets_nil', hits_nil, hits_same, hits_low (f := ⟨j, [], [], a, b⟩) hr, Bool.or_false]
theorem clash_nr (i j a b m : Nat) (r : List Nat) (hr : ∀ id, id ∈ r → id < a) : clash ⟨j, [], [], a, b⟩ ⟨i, r, [], m, m⟩ = false := by
  simp only [clash, meets_nil, meets_nil', hits_nil, hits_same, hits_low (f := ⟨j, [], [], a, b⟩) hr, Bool.or_false]
theorem own_shape {e : TypeId} {sz c : Nat} {v : AVal} {xs : List AVal} (ho : Own h n e sz v (c + 1) xs) : ∃ id, v = .sl id 0 (c + 1) none sz ∧ id < n ∧ h id = some (.row (.l xs) e) := by
  cases ho with
  | sl id cnt xs hid hh hl => exact ⟨id, rfl, hid, hh⟩
theorem below_id {v : AVal} (hv : Below0 n v) : ∀ id, id ∈ (ownId v).toList → id < n := by
  intro id hid
  cases v <;> simp only [ownId, Option.toList] at hid <;> first | (simp at hid; done) | (simp only [List.mem_singleton] at hid; subst hid; exact hv)
/-- The first bytes of a row. -/
theorem Bytes.pre {id e : Nat} {cap : Option Nat} {l m : List UInt8} (hh : h id = some (.row (.l ((l ++ m).map u8)) e)) : Bytes h (.sl id 0 l.length cap 1) l :=
  .sl id 0 cap _ e l hh (by simp [Cont.size]) (fun j hj => by rw [Nat.zero_add, Cont.at_l (by simp; omega)]; simp [hj])
theorem free_hold {s : AVal} {h' : Hp} (hf : Free h n) (hid : ∀ j, ownId s = some j → j < n) (hold : ∀ j, j ≠ n → ownId s ≠ some j → h' j = h j) : Free h' (n + 1) := fun j hj => by
  rw [hold j (by omega) (fun e => by have := hid j e; omega)]
  exact hf j (by omega)
theorem foot_ob {α : Type} {j : Nat} {b : Bool} {f : Unit → M α} : foot j ((ob b).bind f) = (ob b).bind fun _ => foot j (f ()) := M.ext' fun s => rfl
theorem fev_ob {j : Nat} {fs : List Foot} {b : Bool} {f : Unit → M AVal} : FeV E fn rnd Q ks ops j rest d tm fs ((ob b).bind f) h n ↔ b = true ∧ FeV E fn rnd Q ks ops j rest d tm fs (f ()) h n := by
  unfold FeV; rw [foot_ob, wp_ob]
end Go.Am
