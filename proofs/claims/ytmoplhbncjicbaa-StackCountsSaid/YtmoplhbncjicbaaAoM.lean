/- Sums and differences of words with a carry: the model answers them at once. -/
import Derived.Test.YtmoplhbncjicbaaAoL
import Derived.Laws.Externs
set_option linter.unusedSimpArgs false
set_option linter.unusedVariables false
set_option linter.defProp false
namespace Go.Am
open Go
def addAct : List AVal → M AVal
  | [.int .u64 x, .int .u64 y, .int .u64 c] => (ob (decide (0 ≤ x ∧ 0 ≤ y ∧ 0 ≤ c ∧ c ≤ 1))).bind fun _ => M.pure (.tup [.int .u64 ((x + y + c) % 18446744073709551616), .int .u64 ((x + y + c) / 18446744073709551616)])
  | _ => fail "Add64"
def subAct : List AVal → M AVal
  | [.int .u64 x, .int .u64 y, .int .u64 c] => (ob (decide (0 ≤ x ∧ 0 ≤ y ∧ 0 ≤ c ∧ c ≤ 1))).bind fun _ => M.pure (.tup [.int .u64 (((x.toNat + 18446744073709551616 - y.toNat - c.toNat) % 18446744073709551616 : Nat) : Int), .int .u64 ((if x.toNat < y.toNat + c.toNat then 1 else 0 : Nat) : Int)])
  | _ => fail "Sub64"
/-- The model's entry for Sub64. -/
def subEntry : Array Value → Sem Value := fun args => do
  let (x, y, b) ← Extern.MathBitsCarry.three "Sub64" args
  pure (Extern.MathBitsCarry.pair ((x + Extern.MathBitsCarry.m64 - y - b) % Extern.MathBitsCarry.m64) (if x < y + b then 1 else 0))
theorem subEntry_run {P : Program} (x y b : Nat) (hb : b ≤ 1) (w : World) :
    (subEntry #[.int .u64 x, .int .u64 y, .int .u64 b]).run P w =
      .ok (.tuple #[.int .u64 (((x + 18446744073709551616 - y - b) % 18446744073709551616 : Nat) : Int), .int .u64 ((if x < y + b then 1 else 0 : Nat) : Int)]) w := by
  have : b = 0 ∨ b = 1 := by omega
  rcases this with rfl | rfl <;> rfl
variable {P : Program} {f : FuncId}
theorem rl3 {ρ : Ren} {m : Mem} {k : IntKind} {x y c : Int} {xs : Array Value} (h : RL ρ m [.int k x, .int k y, .int k c] xs) : xs = #[.int k x, .int k y, .int k c] := by
  obtain ⟨l, r⟩ := h
  have h3 : xs.size = 3 := by simpa using l.symm
  have e : ∀ i (hi : i < 3) z, [AVal.int k x, .int k y, .int k c][i]? = some (.int k z) → xs[i]? = some (.int k z) := fun i hi z hz => by
    have hx : xs[i]? = some (xs[i]'(by omega)) := Array.getElem?_eq_getElem (by omega)
    have := r i _ _ hz hx
    rw [hx, this.int_inv]
  apply Array.ext_getElem?
  intro i
  match i with
  | 0 => rw [e 0 (by omega) x rfl]; rfl
  | 1 => rw [e 1 (by omega) y rfl]; rfl
  | 2 => rw [e 2 (by omega) c rfl]; rfl
  | i + 3 => rw [Array.getElem?_eq_none (by omega)]; rfl
theorem rtup2 {ρ : Ren} {m : Mem} (k : IntKind) (a b : Int) : R ρ m (.tup [.int k a, .int k b]) (.tuple #[.int k a, .int k b]) := by
  refine .tup _ _ rfl fun i v x hv hx => ?_
  match i with
  | 0 => simp at hv hx; subst hv; subst hx; exact .int _ _
  | 1 => simp at hv hx; subst hv; subst hx; exact .int _ _
  | i + 2 => simp at hv
theorem sim_add {fn : Func} (hf : P.funcs[f]? = some fn) (hname : (fn.name == "runtime.NumGoroutine") = false) (hb : fn.body.isNone = true) (hn : Extern.findNext fn = none) (he : Extern.find fn = some add64Entry) : SimCall P f addAct := by
  intro args s v s' h ho ρ m w xs hr hfr hx
  unfold addAct at h
  split at h
  · rename_i x y c
    obtain ⟨u, s1, h1, h2⟩ := M.bind_ok h
    obtain ⟨rfl, rfl⟩ := pure_ok h2
    obtain ⟨hd, hs⟩ := ob_ok h1 ho
    have hd := of_decide_eq_true hd
    have := rl3 hx
    subst this
    refine .inr ⟨_, w, ?_, ρ, Post.of_same hr hs, rtup2 _ _ _⟩
    rw [run_callFunc_extern hf hname hb hn he, run_add64 x y c hd.1 hd.2.1 hd.2.2.1 hd.2.2.2]
    rfl
  · exact (fail_ok h).elim
theorem sim_sub {fn : Func} (hf : P.funcs[f]? = some fn) (hname : (fn.name == "runtime.NumGoroutine") = false) (hb : fn.body.isNone = true) (hn : Extern.findNext fn = none) (he : Extern.find fn = some subEntry) : SimCall P f subAct := by
  intro args s v s' h ho ρ m w xs hr hfr hx
  unfold subAct at h
  split at h
  · rename_i x y c
    obtain ⟨u, s1, h1, h2⟩ := M.bind_ok h
    obtain ⟨rfl, rfl⟩ := pure_ok h2
    obtain ⟨hd, hs⟩ := ob_ok h1 ho
    have hd := of_decide_eq_true hd
    have := rl3 hx
    subst this
    refine .inr ⟨_, w, ?_, ρ, Post.of_same hr hs, rtup2 _ _ _⟩
    obtain ⟨X, rfl⟩ := Int.eq_ofNat_of_zero_le hd.1
    obtain ⟨Y, rfl⟩ := Int.eq_ofNat_of_zero_le hd.2.1
    obtain ⟨C, rfl⟩ := Int.eq_ofNat_of_zero_le hd.2.2.1
    rw [run_callFunc_extern hf hname hb hn he, subEntry_run X Y C (by omega)]
    rfl
  · exact (fail_ok h).elim
def addD (x y c : Nat) : Nat := (x + y + c) % 18446744073709551616
def addC (x y c : Nat) : Nat := (x + y + c) / 18446744073709551616
def subD (x y c : Nat) : Nat := (x + 18446744073709551616 - y - c) % 18446744073709551616
def subC (x y c : Nat) : Nat := if x < y + c then 1 else 0
theorem addD_lt (x y c : Nat) : addD x y c < 18446744073709551616 := Nat.mod_lt _ (by decide)
theorem subD_lt (x y c : Nat) : subD x y c < 18446744073709551616 := Nat.mod_lt _ (by decide)
theorem addC_le {x y c : Nat} (hx : x < 18446744073709551616) (hy : y < 18446744073709551616) (hc : c ≤ 1) : addC x y c ≤ 1 := by unfold addC; omega
theorem subC_le (x y c : Nat) : subC x y c ≤ 1 := by unfold subC; split <;> omega
theorem add_eq {x y c : Nat} (hc : c ≤ 1) : addAct [.int .u64 (x : Nat), .int .u64 (y : Nat), .int .u64 (c : Nat)] = (ob true).bind fun _ => M.pure (.tup [.int .u64 (addD x y c : Nat), .int .u64 (addC x y c : Nat)]) := by
  have hd : decide ((0 : Int) ≤ (x : Nat) ∧ (0 : Int) ≤ (y : Nat) ∧ (0 : Int) ≤ (c : Nat) ∧ ((c : Nat) : Int) ≤ 1) = true := decide_eq_true ⟨by omega, by omega, by omega, by omega⟩
  have e1 : (((x : Nat) : Int) + (y : Nat) + (c : Nat)) % 18446744073709551616 = ((addD x y c : Nat) : Int) := by unfold addD; omega
  have e2 : (((x : Nat) : Int) + (y : Nat) + (c : Nat)) / 18446744073709551616 = ((addC x y c : Nat) : Int) := by unfold addC; omega
  simp only [addAct, hd, e1, e2]
theorem add_eq0 {x y : Nat} : addAct [.int .u64 (x : Nat), .int .u64 (y : Nat), .int .u64 0] = (ob true).bind fun _ => M.pure (.tup [.int .u64 (addD x y 0 : Nat), .int .u64 (addC x y 0 : Nat)]) := add_eq (c := 0) (by omega)
theorem sub_eq {x y c : Nat} (hc : c ≤ 1) : subAct [.int .u64 (x : Nat), .int .u64 (y : Nat), .int .u64 (c : Nat)] = (ob true).bind fun _ => M.pure (.tup [.int .u64 (subD x y c : Nat), .int .u64 (subC x y c : Nat)]) := by
  have hd : decide ((0 : Int) ≤ (x : Nat) ∧ (0 : Int) ≤ (y : Nat) ∧ (0 : Int) ≤ (c : Nat) ∧ ((c : Nat) : Int) ≤ 1) = true := decide_eq_true ⟨by omega, by omega, by omega, by omega⟩
  simp only [subAct, hd]
  rfl
theorem sub_eq0 {x y : Nat} : subAct [.int .u64 (x : Nat), .int .u64 (y : Nat), .int .u64 0] = (ob true).bind fun _ => M.pure (.tup [.int .u64 (subD x y 0 : Nat), .int .u64 (subC x y 0 : Nat)]) := sub_eq (c := 0) (by omega)
end Go.Am
