/- A slice that grows is written into. -/
import Derived.Test.YtmoplhbncjicbaaAoF
set_option linter.unusedSimpArgs false
set_option linter.unusedVariables false
set_option linter.defProp false
namespace Go.Am
open Go Go.RowKit
variable {E : Env} {fn : FuncId} {rnd : Option Nat} {Q : Post0} {ks : List Kf} {tm : List AVal} {h : Hp} {n : Nat} {ops rest : List Oper} {d : Option Tmp}
theorem put_set : ∀ (l : List AVal) (i : Nat) (v : AVal), put l i v = l.set i v := by
  intro l
  induction l with
  | nil => intro i v; rfl
  | cons a l ih => intro i v; cases i with
    | zero => rfl
    | succ i => simp only [put, List.set_cons_succ, ih]
theorem own_store {t e : TypeId} {i : TI} {v w : AVal} {cnt j : Nat} {xs : List AVal} (ho : Own h n e 1 v cnt xs) (hj : j < cnt) (hi : ti E t = M.pure i) (hs : i.size = 1) (hw : w.cells = [w]) (ho1 : oneCell w = true)
    (hq : ∀ h', Own h' n e 1 v cnt (xs.set j w) → (∀ k, ownId v ≠ some k → h' k = h k) → Ops E fn rnd Q ks ops rest (putT tm d undef) h' n) :
    OpV E fn rnd Q ks ops rest d tm (doStore E t (addrOf j v) w) h n := by
  cases ho with
  | nil => omega
  | full id cnt xs e' hid hh hl =>
    simp only [doStore, store, hi, bind_pure, hw, hs, List.length_singleton, show Nat.beq 1 1 = true from rfl, addrOf, writeCells, bind_assoc, OpV, wp_get, hh, Option.some.injEq, exists_eq_left', rowK, wp_ob, Cont.size, List.all_cons, List.all_nil, ho1, Bool.and_true, wp_set,
      wp_pure, setAll, Cont.set, Nat.zero_add]
    refine ⟨ble_of (by omega), by simp, ?_⟩
    refine hq (upd h id (some (.row (.l (xs.set j w)) e'))) (.full id cnt _ e' hid (upd_same _ _ _) (by simpa using hl)) (fun k hk => upd_ne _ _ (fun e => hk (by rw [e]; rfl))) |> fun x => ?_
    rw [put_set]; exact x
  | sl id cnt xs hid hh hl =>
    simp only [doStore, store, hi, bind_pure, hw, hs, List.length_singleton, show Nat.beq 1 1 = true from rfl, addrOf, writeCells, bind_assoc, OpV, wp_get, hh, Option.some.injEq, exists_eq_left', rowK, wp_ob, Cont.size, List.all_cons, List.all_nil, ho1, Bool.and_true, wp_set,
      wp_pure, setAll, Cont.set, Nat.zero_add]
    refine ⟨ble_of (by omega), by simp, ?_⟩
    refine hq (upd h id (some (.row (.l (xs.set j w)) e))) (.sl id cnt _ hid (upd_same _ _ _) (by simpa using hl)) (fun k hk => upd_ne _ _ (fun e => hk (by rw [e]; rfl))) |> fun x => ?_
    rw [put_set]; exact x
theorem Own.wrote {e : TypeId} {cnt : Nat} {v : AVal} {xs : List AVal} (ho : Own h n e 1 v cnt xs) : xs.length = cnt := by have := ho.length; omega
theorem k_bool (b : Bool) : (AVal.bool b).cells = [.bool b] ∧ oneCell (.bool b) = true ∧ isJunk (.bool b) = false := ⟨rfl, rfl, rfl⟩
theorem k_blit (b : Bool) : (AVal.blit b).cells = [.blit b] ∧ oneCell (.blit b) = true ∧ isJunk (.blit b) = false := ⟨rfl, rfl, rfl⟩
theorem k_int (k : IntKind) (x : Int) : (AVal.int k x).cells = [.int k x] ∧ oneCell (.int k x) = true ∧ isJunk (.int k x) = false := ⟨rfl, rfl, rfl⟩
theorem k_str (l : List UInt8) : (AVal.str l).cells = [.str l] ∧ oneCell (.str l) = true ∧ isJunk (.str l) = false := ⟨rfl, rfl, rfl⟩
theorem k_nilp  : (AVal.nilp ).cells = [.nilp ] ∧ oneCell (.nilp ) = true ∧ isJunk (.nilp ) = false := ⟨rfl, rfl, rfl⟩
theorem k_nils  : (AVal.nils ).cells = [.nils ] ∧ oneCell (.nils ) = true ∧ isJunk (.nils ) = false := ⟨rfl, rfl, rfl⟩
theorem k_nilm  : (AVal.nilm ).cells = [.nilm ] ∧ oneCell (.nilm ) = true ∧ isJunk (.nilm ) = false := ⟨rfl, rfl, rfl⟩
theorem k_nilf  : (AVal.nilf ).cells = [.nilf ] ∧ oneCell (.nilf ) = true ∧ isJunk (.nilf ) = false := ⟨rfl, rfl, rfl⟩
theorem k_nili  : (AVal.nili ).cells = [.nili ] ∧ oneCell (.nili ) = true ∧ isJunk (.nili ) = false := ⟨rfl, rfl, rfl⟩
theorem k_emp  : (AVal.emp ).cells = [.emp ] ∧ oneCell (.emp ) = true ∧ isJunk (.emp ) = false := ⟨rfl, rfl, rfl⟩
theorem k_ptr (i o : Nat) : (AVal.ptr i o).cells = [.ptr i o] ∧ oneCell (.ptr i o) = true ∧ isJunk (.ptr i o) = false := ⟨rfl, rfl, rfl⟩
theorem k_sl (i o n : Nat) (c : Option Nat) (s : Nat) : (AVal.sl i o n c s).cells = [.sl i o n c s] ∧ oneCell (.sl i o n c s) = true ∧ isJunk (.sl i o n c s) = false := ⟨rfl, rfl, rfl⟩
theorem k_ip (f : Nat → AVal) (n o : Nat) : (AVal.ip f n o).cells = [.ip f n o] ∧ oneCell (.ip f n o) = true ∧ isJunk (.ip f n o) = false := ⟨rfl, rfl, rfl⟩
theorem k_isl (f : Nat → AVal) (s o n : Nat) : (AVal.isl f s o n).cells = [.isl f s o n] ∧ oneCell (.isl f s o n) = true ∧ isJunk (.isl f s o n) = false := ⟨rfl, rfl, rfl⟩
theorem k_fn (f : Fn) (a b : List AVal) : (AVal.fn f a b).cells = [.fn f a b] ∧ oneCell (.fn f a b) = true ∧ isJunk (.fn f a b) = false := ⟨rfl, rfl, rfl⟩
theorem k_map (i : Nat) : (AVal.map i).cells = [.map i] ∧ oneCell (.map i) = true ∧ isJunk (.map i) = false := ⟨rfl, rfl, rfl⟩
theorem k_agg (l : List AVal) : (AVal.agg l).cells = l ∧ isJunk (.agg l) = false := ⟨rfl, rfl⟩
def cel := (And.intro @k_bool (And.intro @k_blit (And.intro @k_int (And.intro @k_str (And.intro @k_nilp (And.intro @k_nils (And.intro @k_nilm (And.intro @k_nilf (And.intro @k_nili (And.intro @k_emp (And.intro @k_ptr (And.intro @k_sl (And.intro @k_ip (And.intro @k_isl (And.intro @k_fn (And.intro @k_map @k_agg))))))))))))))))
theorem Own.kind {e : TypeId} {sz cnt : Nat} {v : AVal} {xs : List AVal} (ho : Own h n e sz v cnt xs) : v.cells = [v] ∧ oneCell v = true ∧ isJunk v = false := by cases ho <;> exact ⟨rfl, rfl, rfl⟩
theorem Bytes.kind {v : AVal} {l : List UInt8} (hb : Bytes h v l) : v.cells = [v] ∧ oneCell v = true ∧ isJunk v = false := by cases hb <;> exact ⟨rfl, rfl, rfl⟩
theorem cont_block_any {i j : Nat} : Kont E fn rnd Q (.block i :: ks) (.exit j) tm h n ↔ (match j.beq i with | true => Kont E fn rnd Q ks .normal tm h n | false => Kont E fn rnd Q ks (.exit j) tm h n) := Iff.rfl
theorem opg_un {op : Op} {want : Bool} : OpG E fn rnd Q ks ops rest d tm op want undef h n ↔ Ops E fn rnd Q ks ops rest (putT tm d undef) h n := opg_undef
theorem callV_func {rec : Rec} (g : FuncId) (first cap args : List AVal) : callV E rec (.fn (.func g) first cap) args = callF E rec g (first ++ args ++ cap) := rfl
end Go.Am
