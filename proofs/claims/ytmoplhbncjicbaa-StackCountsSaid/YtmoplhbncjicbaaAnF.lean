/- The abstract machine does what the model does: whole functions. -/
import Derived.Test.YtmoplhbncjicbaaAnE
import Derived.Below
set_option linter.unusedSimpArgs false
set_option linter.unusedVariables false
namespace Go.Am
open Go Go.RowKit

variable {E : Env}
theorem step_sim {rec : Rec} (hrec : SimC E.P rec) {fn : FuncId} {rnd : Option Nat} {c : Code} (hc : ∀ b, c ≠ .loop b) : Sim1 E.P rnd c (step E rec fn rnd c) := by
  cases c with
  | skip =>
    intro tm e tm' s s' h ho ρ m w a o n Q hr hf ht hn hQ
    obtain ⟨he, rfl⟩ := pure_ok h
    injection he with q1 q2
    subst q1; subst q2
    exact wpIn_skip (hQ _ _ _ _ _ (.still hr (.refl _) ht .normal))
  | label l =>
    intro tm e tm' s s' h ho ρ m w a o n Q hr hf ht hn hQ
    obtain ⟨he, rfl⟩ := pure_ok h
    injection he with q1 q2
    subst q1; subst q2
    exact wpIn_label (hQ _ _ _ _ _ (.still hr (.refl _) ht .normal))
  | exit id =>
    intro tm e tm' s s' h ho ρ m w a o n Q hr hf ht hn hQ
    obtain ⟨he, rfl⟩ := pure_ok h
    injection he with q1 q2
    subst q1; subst q2
    exact wpIn_exit (hQ _ _ _ _ _ (.still hr (.refl _) ht (.exit id)))
  | ret =>
    intro tm e tm' s s' h ho ρ m w a o n Q hr hf ht hn hQ
    obtain ⟨he, rfl⟩ := pure_ok h
    injection he with q1 q2
    subst q1; subst q2
    exact wpIn_ret (hQ _ _ _ _ _ (.still hr (.refl _) ht .ret))
  | region id ops draw =>
    cases draw with
    | false => exact region_sim hrec
    | true => exact draw_sim hrec
  | seq x y => exact seq_sim hrec
  | cond c x y => exact cond_sim hrec
  | block id c => exact block_sim hrec
  | loop b => exact absurd rfl (hc b)
  | rangeFunc f ps as body => exact rangeFunc_sim hrec
  | scope c => exact scope_sim hrec
  | goto l => intro tm e tm' s s' h; exact (fail_ok h).elim
  | refuse w => intro tm e tm' s s' h; exact (fail_ok h).elim
theorem evalC_sim : ∀ n, SimC E.P (evalC E n) := by
  intro n
  induction n using Nat.strongRecOn with
  | _ n ih =>
    intro fn rnd c
    cases n with
    | zero => intro tm e tm' s s' h; exact (fail_ok h).elim
    | succ n =>
      by_cases hc : ∃ b, c = .loop b
      · obtain ⟨b, rfl⟩ := hc
        exact loop_sim (F := evalC E) (fun tm e tm' s s' h => fail_ok h) (fun j _ => rfl) (fun j hj => ih j hj fn rnd b)
      · exact step_sim (ih n (by omega)) (fun b hb => hc ⟨b, hb⟩)
/-- All that is there at the start. -/
def oldMem (w : World) : Mem := fun b => w.heap[b]?
theorem call_of {f : FuncId} {n : Nat} {args : List AVal} {xs : Array Value} {w : World} {v : AVal} {s s' : St} (h : (callI E (evalC E n) f args).run s = .ok v s') (ho : OkObs s') (hs : ∀ id, s.heap.get id = none) (hx : RL (fun _ => none) (oldMem w) args xs) :
    Calls E.P f xs w fun e w' => ∃ x ρ', e = .returned x ∧ R ρ' (oldMem w) v x ∧ Below w.heap.size w w' := by
  have hr : Rel E.P (fun _ => none) (oldMem w) s.heap.get w := ⟨fun id b hb => absurd hb (by rw [hs id]; simp), fun i j b c r r' hb => absurd hb (by rw [hs i]; simp), fun b o hb => hb⟩
  rcases callI_sim (evalC_sim n) f args s v s' h ho _ _ w xs hr (fun _ _ => rfl) hx with ⟨_, hc⟩ | ⟨x, w', he, _⟩
  · refine hc.mono (fun e w' hh => ?_)
    obtain ⟨x, rfl, ρ', hp, hx⟩ := hh
    refine ⟨x, ρ', rfl, hx, hp.fr.os, hp.fr.tape, hp.fr.output, hp.fr.size, fun k hk => ?_⟩
    have : (oldMem w) k = some w.heap[k] := by simp [oldMem, hk]
    rw [hp.rel.mem k _ this]
    exact this.symm
  · exfalso
    unfold callI at h
    split at h
    · rename_i hb
      have hfok := (E.funcs.find f).ok
      rw [Nat.eq_of_beq_eq_true hb] at hfok
      rw [hfok.call] at he
      injection he with he
      cases he
    · exact (fail_ok h).elim
/-- A closed law: it is evaluated. -/
theorem law_closed {f : FuncId} {n : Nat} (h : Res.isTrue ((callI E (evalC E n) f []).run st0) = true) (w : World) : Calls E.P f #[] w fun e w' => e = .returned (.bool true) ∧ Below w.heap.size w w' := by
  unfold Res.isTrue at h
  split at h
  · rename_i s hs
    refine (call_of hs h (fun _ => rfl) .nil).mono (fun e w' hh => ?_)
    obtain ⟨x, ρ', rfl, hx, hb⟩ := hh
    exact ⟨by rw [hx.bool_inv], hb⟩
  · rename_i s hs
    refine (call_of hs h (fun _ => rfl) .nil).mono (fun e w' hh => ?_)
    obtain ⟨x, ρ', rfl, hx, hb⟩ := hh
    exact ⟨by rw [hx.blit_inv], hb⟩
  · cases h
#print axioms law_closed
end Go.Am
