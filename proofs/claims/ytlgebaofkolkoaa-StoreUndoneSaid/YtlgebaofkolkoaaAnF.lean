/- The abstract machine. -/
import Derived.Test.YtlgebaofkolkoaaAnE
import Derived.Below
set_option linter.unusedSimpArgs false
set_option linter.unusedVariables false
namespace Go.Am
open Go Go.RowKit
variable {E : Env}
theorem HR {rec : Rec} (hrec : mQ E.P rec) {fn : FuncId} {rnd : Option Nat} {c : Code} (hc : ∀ b, c ≠ .loop b) : rZ E.P rnd c (step E rec fn rnd c) := by
 cases c with
 | skip =>
  intro tm e tm' s s' h ho ρ m w a o n Q hr hf ht hn hQ
  obtain ⟨he, rfl⟩ := aE h
  injection he with q1 q2
  subst q1; subst q2
  exact wpIn_skip (hQ _ _ _ _ _ (.still hr (.refl _) ht .normal))
 | label l =>
  intro tm e tm' s s' h ho ρ m w a o n Q hr hf ht hn hQ
  obtain ⟨he, rfl⟩ := aE h
  injection he with q1 q2
  subst q1; subst q2
  exact wpIn_label (hQ _ _ _ _ _ (.still hr (.refl _) ht .normal))
 | exit id =>
  intro tm e tm' s s' h ho ρ m w a o n Q hr hf ht hn hQ
  obtain ⟨he, rfl⟩ := aE h
  injection he with q1 q2
  subst q1; subst q2
  exact wpIn_exit (hQ _ _ _ _ _ (.still hr (.refl _) ht (.exit id)))
 | ret =>
  intro tm e tm' s s' h ho ρ m w a o n Q hr hf ht hn hQ
  obtain ⟨he, rfl⟩ := aE h
  injection he with q1 q2
  subst q1; subst q2
  exact wpIn_ret (hQ _ _ _ _ _ (.still hr (.refl _) ht .ret))
 | region id ops draw =>
  cases draw with
  | false => exact CF hrec
  | true => exact KF hrec
 | seq x y => exact MF hrec
 | cond c x y => exact KN hrec
 | block id c => exact GU hrec
 | loop b => exact absurd rfl (hc b)
 | rangeFunc f ps as body => exact wW hrec
 | scope c => exact FJ hrec
 | goto l => intro tm e tm' s s' h; exact (aG h).elim
 | refuse w => intro tm e tm' s s' h; exact (aG h).elim
theorem y8 : ∀ n, mQ E.P (j9 E n) := by
 intro n
 induction n using Nat.strongRecOn with
 | _ n ih =>
  intro fn rnd c
  cases n with
  | zero => intro tm e tm' s s' h; exact (aG h).elim
  | succ n =>
   by_cases hc : ∃ b, c = .loop b
   ·obtain ⟨b, rfl⟩ := hc
    exact J4 (F := j9 E) (fun tm e tm' s s' h => aG h) (fun j _ => rfl) (fun j hj => ih j hj fn rnd b)
   ·exact HR (ih n (by omega)) (fun b hb => hc ⟨b, hb⟩)
def iD (w : World) : Mem := fun b => w.heap[b]?
theorem O8 {f : FuncId} {n : Nat} {args : List a9} {xs : Array Value} {w : World} {v : a9} {s s' : St} (h : (aZ E (j9 E n) f args).run s = .ok v s') (ho : bU s') (hs : ∀ id, s.heap.get id = none) (hx : RL (fun _ => none) (iD w) args xs) :
  Calls E.P f xs w fun e w' => ∃ x ρ', e = .returned x ∧ R ρ' (iD w) v x ∧ Below w.heap.size w w' := by
 have hr : Rel E.P (fun _ => none) (iD w) s.heap.get w := ⟨fun id b hb => absurd hb (by rw [hs id]; simp), fun i j b c r r' hb => absurd hb (by rw [hs i]; simp), fun b o hb => hb⟩
 rcases mN (y8 n) f args s v s' h ho _ _ w xs hr (fun _ _ => rfl) hx with ⟨_, hc⟩ | ⟨x, w', he, _⟩
 ·refine hc.mono (fun e w' hh => ?_)
  obtain ⟨x, rfl, ρ', hp, hx⟩ := hh
  refine ⟨x, ρ', rfl, hx, hp.fr.os, hp.fr.tape, hp.fr.output, hp.fr.size, fun k hk => ?_⟩
  have : (iD w) k = some w.heap[k] := by simp [iD, hk]
  rw [hp.rel.mem k _ this]
  exact this.symm
 ·exfalso
  unfold aZ at h
  split at h
  ·rename_i hb
   have hfok := (E.funcs.find f).ok
   rw [Nat.eq_of_beq_eq_true hb] at hfok
   rw [hfok.call] at he
   injection he with he
   cases he
  ·exact (aG h).elim
end Go.Am
