/- The abstract machine. -/
import Derived.Test.YtlgebaofkolkoaaAoU
set_option linter.unusedSimpArgs false
set_option linter.unusedVariables false
namespace Go.Am
open Go
variable {E : Env} {h : Hp} {n : Nat}
theorem Rd.wr {m : M a9} {ids : List Nat} {v : a9} (r : Rd m h n ids v) : Wr m h n ids [] v h := by
 refine ⟨fun s hs => ?_⟩
 obtain ⟨s', o, e, a, b, c, d, w, g, q⟩ := r.r s hs
 exact ⟨s', o, e, by rw [a, hs.hp], b, c, d, w, g, q⟩
def Ex (m : M a9) (h : Hp) (n : Nat) (v : a9) (h' : Hp) : Prop := ∃ rs ws, Wr m h n rs ws v h'
theorem Ex.rd {m : M a9} {ids : List Nat} {v : a9} (r : Rd m h n ids v) : Ex m h n v h := ⟨_, _, r.wr⟩
theorem Ex.wr {m : M a9} {rs ws : List Nat} {v : a9} {h' : Hp} (r : Wr m h n rs ws v h') : Ex m h n v h' := ⟨_, _, r⟩
theorem Ex.pure {v : a9} : Ex (M.pure v) h n v h := .rd (.pure v)
theorem jW {rec : Rec} {ops : List Oper} {o : Oper} {tm : List a9} (hg : o.guard = none) : opV E rec ops o tm = execOp E rec tm o.op := by
 unfold opV wanted
 rw [hg]; rfl
section
variable {rec : Rec} {ops : Array Oper} {J : Array Bool → List a9 → Hp → Prop}
theorem II (hrec : mQ E.P rec)
  (hs : ∀ listed tm h, listed.size = ops.size → J listed tm h → ∀ i o, ops[i]? = some o → listed.getD i false = false → (∀ e ∈ o.after, Region.binds .any e = true → listed.getD e.on false = true) →
   ∃ v h', Ex (opV E rec ops.toList o tm) h n v h' ∧ J (listed.setIfInBounds i true) (aC tm o.dst v) h')
  (hback : rT 0 ops.toList = true)
  {ρ₀ : Ren} {m : Mem} {w₀ : World} {a₀ : Act} {ro : Option Nat} {nn : Nat} {Q : Exit → Act → World → Prop}
  (hQ : ∀ listed tm h a w ρ, (∀ k, k < ops.size → listed.getD k false = true) → J listed tm h → Rel E.P ρ m h w → RL ρ m tm a.tmps → gG ρ₀ ρ → (∀ id, ρ id ≠ none → ρ₀ id ≠ none) → Fr w₀ w → a.defers = a₀.defers → Q .normal a w) :
  ∀ (fuel : Nat) (listed : Array Bool), listed.size = ops.size → (listed.toList.filter (!·)).length ≤ fuel → ∀ a w ρ h tm, J listed tm h → Rel E.P ρ m h w → RL ρ m tm a.tmps → gG ρ₀ ρ → (∀ id, ρ id ≠ none → ρ₀ id ≠ none) → Fr w₀ w → a.defers = a₀.defers →
   wpAnyIn (Fw ro) nn E.P .any ops Q fuel listed a w := by
 intro fuel
 have lst : ∀ (listed : Array Bool), listed.size = ops.size → ∀ k, listed.getD k true = false ↔ (k < ops.size ∧ ¬ listed.getD k false = true) := by
  intro listed hsz k
  by_cases hk : k < ops.size
  ·have : k < listed.size := by omega
   simp [Array.getD, this, hk]
  ·have : ¬ k < listed.size := by omega
   simp [Array.getD, this, hk]
 have done : ∀ (listed : Array Bool), listed.size = ops.size → Region.ready .any ops listed = [] → ∀ k, k < ops.size → listed.getD k false = true := by
  intro listed hsz hr k
  induction k using Nat.strongRecOn with
  | _ k ih =>
   intro hk
   by_cases hl : listed.getD k false = true
   ·exact hl
   ·have ho : ops[k]? = some ops[k] := Array.getElem?_eq_getElem hk
    have : k ∈ Region.ready .any ops listed := mem_ready.2 ⟨(lst listed hsz k).2 ⟨hk, hl⟩, ops[k], ho, fun e he hb => by
     have := qH ops.toList 0 hback k ops[k] (by rw [Array.getElem?_toList]; exact ho) e he hb
     exact ih e.on (by omega) (by omega)⟩
    rw [hr] at this
    cases this
 induction fuel with
 | zero =>
  intro listed hsz hc a w ρ h tm hj hr ht hle hnew hfr hd
  have hr' : Region.ready .any ops listed = [] := by
   cases hr' : Region.ready .any ops listed with
   | nil => rfl
   | cons j l =>
    have hj : j ∈ Region.ready .any ops listed := by rw [hr']; exact List.mem_cons_self
    obtain ⟨h1, o, h2, _⟩ := mem_ready.1 hj
    have hj' := (lst listed hsz j).1 h1
    have hlt : j < listed.size := by omega
    have := qE listed.toList (by omega) j listed[j] (by simp [hlt])
    exfalso
    apply hj'.2
    simp [Array.getD, hlt, this]
  exact ⟨hr', hQ listed tm h a w ρ (done listed hsz hr') hj hr ht hle hnew hfr hd⟩
 | succ fuel ih =>
  intro listed hsz hc a w ρ h tm hj hr ht hle hnew hfr hd
  refine ⟨fun hr' => hQ listed tm h a w ρ (done listed hsz hr') hj hr ht hle hnew hfr hd, fun i hi => ?_⟩
  obtain ⟨h1, o, h2, h3⟩ := mem_ready.1 hi
  have hi' := (lst listed hsz i).1 h1
  unfold wpOpIn
  rw [h2]
  obtain ⟨v, h', ⟨rs, ws, hwr⟩, hj'⟩ := hs listed tm h hsz hj i o h2 (by simpa using hi'.2) h3
  obtain ⟨s', ob, e1, e2, e3, e4, e5, e6, e7, e8⟩ := hwr.r (at0 h n) (lL h n)
  have hok : bU s' := by unfold bU; rw [e7]; simpa [at0] using e8
  have hnx : s'.next = n := e3
  refine z8 hrec e1 hok (s := at0 h n) hr (fun id hid => by
   have h1 : n ≤ id := hid.1
   have h2 : id < s'.next := hid.2
   omega) ht (fun x w' ρ' hpost hx => ?_)
  refine ih (listed.setIfInBounds i true) (by simpa using hsz) ?_ _ w' ρ' h' (aC tm o.dst v) hj' (by rw [← e2]; exact hpost.rel) (tZ (ht.mono hpost.ren hpost.mle) o.dst hx) (fun id r q => hpost.ren id r (hle id r q)) (fun id q => ?_) (hfr.trans hpost.fr) (by rw [Act.put_defers, hd])
  ·have hlt : i < listed.size := by omega
   have hf : listed.toList[i]? = some false := by
    have : listed.getD i true = listed[i] := by simp [Array.getD, hlt]
    rw [this] at h1
    simp [hlt, h1]
   have := count_set listed.toList i hf
   simp only [Array.toList_setIfInBounds]
   omega
  ·rcases hpost.new id q with q | q
   ·exact hnew id q
   ·have h1 : n ≤ id := q.1
    have h2 : id < s'.next := q.2
    omega
end
set_option linter.defProp false
def gL := (And.intro @List.getElem?_cons_succ.{0} (And.intro @List.getElem?_cons_zero.{0} (And.intro @List.append_eq.{0} (And.intro @List.cons_append.{0} (And.intro @List.nil_append.{0} (And.intro @List.append_nil.{0} (And.intro @List.length_cons.{0} @List.length_nil.{0})))))))
def gB := (And.intro @not_true_eq_false (And.intro @not_false_eq_true (And.intro @decide_true (And.intro @decide_false (And.intro @Bool.not_true (And.intro @Bool.not_false (And.intro @Bool.and_true (And.intro @Bool.true_and (And.intro @Bool.and_false (And.intro @Bool.false_and (And.intro @Bool.or_true (And.intro @Bool.true_or (And.intro @Bool.or_false (And.intro @Bool.false_or (And.intro @and_true (And.intro @true_and @and_self))))))))))))))))
def gI := (And.intro @nc0 (And.intro @nc1 (And.intro @cN (And.intro @cM (And.intro @cL (And.intro @Nat.zero_add (And.intro @Nat.add_zero (And.intro @Int.toNat_zero (And.intro @Nat.zero_mul @wp_pure)))))))))
def gF := (And.intro @wA (And.intro @vZ (And.intro @vY (And.intro @vX (And.intro @vW (And.intro @vV (And.intro @wD (And.intro @wC (And.intro @vU (And.intro @wB (And.intro @KO (And.intro @KP (And.intro @KR @KQ)))))))))))))
end Go.Am
