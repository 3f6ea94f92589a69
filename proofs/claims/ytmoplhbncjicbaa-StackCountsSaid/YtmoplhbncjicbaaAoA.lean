/- The abstract machine without fuel: the limit of all fuels. -/
import Derived.Test.YtmoplhbncjicbaaAnF
set_option linter.unusedSimpArgs false
set_option linter.unusedVariables false
namespace Go.Am
open Go

/-- One use of a recursive call, with its result. -/
structure Use where
  fn : FuncId
  rnd : Option Nat
  c : Code
  tm : List AVal
  s : St
  e : AExit
  tm' : List AVal
  s' : St
def Use.In (u : Use) (rec : Rec) : Prop := (rec u.fn u.rnd u.c u.tm).run u.s = .ok (u.e, u.tm') u.s'
/-- Whatever it answers, it asks but finitely many recursive calls for it. -/
structure Fin1 {α : Type} (X : Rec → M α) : Prop where
  out : ∀ rec s a s', (X rec).run s = .ok a s' → ∃ L : List Use, (∀ u ∈ L, u.In rec) ∧ ∀ rec', (∀ u ∈ L, u.In rec') → (X rec').run s = .ok a s'
theorem Fin1.const {α : Type} (m : M α) : Fin1 (fun _ => m) := ⟨fun _ s a s' h => ⟨[], (fun _ hu => by cases hu), fun _ _ => h⟩⟩
theorem Fin1.use (fn : FuncId) (rnd : Option Nat) (c : Code) (tm : List AVal) : Fin1 (fun rec => rec fn rnd c tm) := ⟨fun rec s a s' h =>
  ⟨[⟨fn, rnd, c, tm, s, a.1, a.2, s'⟩], fun u hu => by simp only [List.mem_singleton] at hu; subst hu; exact h, fun rec' hr => hr _ (List.mem_singleton.2 rfl)⟩⟩
theorem Fin1.bind {α β : Type} {X : Rec → M α} {f : Rec → α → M β} (hX : Fin1 X) (hf : ∀ a, Fin1 (fun rec => f rec a)) : Fin1 (fun rec => (X rec).bind (f rec)) := by
  refine ⟨fun rec s b s2 h => ?_⟩
  obtain ⟨a, s1, h1, h2⟩ := M.bind_ok h
  obtain ⟨L1, q1, r1⟩ := hX.out rec s a s1 h1
  obtain ⟨L2, q2, r2⟩ := (hf a).out rec s1 b s2 h2
  refine ⟨L1 ++ L2, fun u hu => (List.mem_append.1 hu).elim (q1 u) (q2 u), fun rec' hr => ?_⟩
  have e1 := r1 rec' fun u hu => hr u (List.mem_append.2 (.inl hu))
  have e2 := r2 rec' fun u hu => hr u (List.mem_append.2 (.inr hu))
  simp only [M.bind, bindF, e1, e2]

variable {E : Env}
theorem fin_callI (f : FuncId) (args : List AVal) : Fin1 (fun rec => callI E rec f args) := by
  unfold callI
  split
  · exact Fin1.bind (.use ..) fun r => .const _
  · exact .const _
theorem fin_hookAt (f : FuncId) (args : List AVal) {k : Rec → M AVal} (hk : Fin1 k) : ∀ l : List (Hook E.P), Fin1 (fun rec => hookAt E l f args (k rec)) := by
  intro l
  induction l with
  | nil => exact hk
  | cons h l ih =>
    simp only [hookAt]
    split
    · exact .const _
    · exact ih
theorem fin_callF (f : FuncId) (args : List AVal) : Fin1 (fun rec => callF E rec f args) := fin_hookAt f args (fin_callI f args) E.hooks
theorem fin_loopK {α : Type} {k : Rec → ALoop → M α} (hk : ∀ l, Fin1 (fun rec => k rec l)) (b : Blk) : Fin1 (fun rec => loopK (k rec) b) := by
  unfold loopK
  split
  · exact hk _
  · exact .const _
theorem fin_yieldTo (id : Nat) (args : List AVal) : Fin1 (fun rec => yieldTo rec id args) := by
  unfold yieldTo
  refine Fin1.bind (.const _) fun b => fin_loopK (fun l => ?_) b
  split
  · exact .const _
  · split
    · refine Fin1.bind (.use ..) fun r => ?_
      split
      · refine Fin1.bind (.const _) fun b => fin_loopK (fun l2 => ?_) b
        split
        · refine Fin1.bind (.const _) fun _ => Fin1.bind (.use ..) fun r2 => ?_
          exact .const _
        · exact .const _
      · exact .const _
    · exact .const _
theorem fin_callV (f : AVal) (args : List AVal) : Fin1 (fun rec => callV E rec f args) := by
  unfold callV
  split
  · split
    · exact fin_callF _ _
    · split
      · exact fin_yieldTo _ _
      · exact .const _
    · exact .const _
  · exact .const _
theorem fin_doCall (tm : List AVal) (c : Call) : Fin1 (fun rec => doCall E rec tm c) := by
  unfold doCall
  split
  · exact fin_callV _ _
  · exact .const _
  · exact .const _
theorem fin_execOp (tm : List AVal) (o : Op) : Fin1 (fun rec => execOp E rec tm o) := by
  unfold execOp
  split
  all_goals first
    | exact .const _
    | exact fin_doCall _ _
theorem fin_opV (ops : List Oper) (o : Oper) (tm : List AVal) : Fin1 (fun rec => opV E rec ops o tm) := by
  unfold opV
  refine Fin1.bind (.const _) fun w => ?_
  split
  · exact fin_execOp _ _
  · exact .const _
theorem fin_evalOps (ops : List Oper) : ∀ (l : List Oper) (tm : List AVal), Fin1 (fun rec => evalOps E rec ops l tm) := by
  intro l
  induction l with
  | nil => intro tm; exact .const _
  | cons o l ih =>
    intro tm
    simp only [evalOps, opAt]
    exact Fin1.bind (Fin1.bind (fin_opV ops o tm) fun v => .const _) fun tm => ih tm
theorem fin_foot {α : Type} (j : Nat) {X : Rec → M α} (hX : Fin1 X) : Fin1 (fun rec => foot j (X rec)) := by
  refine ⟨fun rec s a s' h => ?_⟩
  simp only [foot, footF] at h
  cases hm : (X rec).run { s with rds := [], wrs := [] } with
  | fail w => rw [hm] at h; cases h
  | ask b => rw [hm] at h; cases h
  | ok a1 s1 =>
    rw [hm] at h
    obtain ⟨L, q, r⟩ := hX.out rec _ _ _ hm
    refine ⟨L, q, fun rec' hr => ?_⟩
    simp only [foot, footF, r rec' hr]
    exact h
theorem fin_evalFeet (ops : List Oper) : ∀ (l : List Oper) (j : Nat) (tm : List AVal) (fs : List Foot), Fin1 (fun rec => evalFeet E rec ops j l tm fs) := by
  intro l
  induction l with
  | nil => intro j tm fs; exact .const _
  | cons o l ih =>
    intro j tm fs
    simp only [evalFeet]
    exact Fin1.bind (fin_foot j (fin_opV ops o tm)) fun r => ih _ _ _
theorem fin_step (fn : FuncId) (rnd : Option Nat) (c : Code) (tm : List AVal) : Fin1 (fun rec => step E rec fn rnd c tm) := by
  unfold step
  split
  · exact .const _
  · exact .const _
  · split
    · exact Fin1.bind (fin_evalOps _ _ _) fun _ => .const _
    · split
      · exact .const _
      · unfold evalDraw
        exact Fin1.bind (Fin1.bind (.const _) fun _ => Fin1.bind (fin_evalFeet _ _ _ _ _) fun _ => .const _) fun _ => .const _
  · refine Fin1.bind (.use ..) fun r => ?_
    split
    · exact .use ..
    · exact .const _
  · refine Fin1.bind (.const _) fun t => ?_
    split
    · exact .use ..
    · exact .use ..
  · split
    · exact .const _
    · refine Fin1.bind (.use ..) fun r => ?_
      exact .const _
  · refine Fin1.bind (.use ..) fun r => ?_
    split
    · exact .use ..
    · exact .const _
  · split
    · split
      · split
        · exact Fin1.bind (.const _) fun _ => Fin1.bind (.const _) fun id => Fin1.bind (fin_callF _ _) fun _ => .const _
        · exact .const _
      · exact .const _
    · exact .const _
  · exact .const _
  · exact .use ..
  · exact .const _
  · exact .const _

/-- More fuel does no harm. -/
theorem evalC_more : ∀ n fn rnd c tm s r s', (evalC E n fn rnd c tm).run s = .ok r s' → (evalC E (n + 1) fn rnd c tm).run s = .ok r s' := by
  intro n
  induction n with
  | zero => intro fn rnd c tm s r s' h; cases h
  | succ n ih =>
    intro fn rnd c tm s r s' h
    obtain ⟨L, q, hr⟩ := (fin_step fn rnd c tm).out (evalC E n) s r s' h
    exact hr (evalC E (n + 1)) fun u hu => ih _ _ _ _ _ _ _ (q u hu)
theorem evalC_le {n m : Nat} (hm : n ≤ m) {fn rnd c tm s r s'} (h : (evalC E n fn rnd c tm).run s = .ok r s') : (evalC E m fn rnd c tm).run s = .ok r s' := by
  induction hm with
  | refl => exact h
  | step _ ih => exact evalC_more _ _ _ _ _ _ _ _ ih

open Classical in
noncomputable def wF (E : Env) (fn : FuncId) (rnd : Option Nat) (c : Code) (tm : List AVal) (s : St) : Res (AExit × List AVal) :=
  if h : ∃ n r s', (evalC E n fn rnd c tm).run s = .ok r s' then (evalC E h.choose fn rnd c tm).run s else .fail "no end"
theorem wF_ok {fn rnd c tm s r s'} : wF E fn rnd c tm s = .ok r s' ↔ ∃ n, (evalC E n fn rnd c tm).run s = .ok r s' := by
  unfold wF
  constructor
  · intro h
    split at h
    · exact ⟨_, h⟩
    · cases h
  · rintro ⟨n, hn⟩
    have hex : ∃ n r s', (evalC E n fn rnd c tm).run s = .ok r s' := ⟨n, r, s', hn⟩
    rw [dif_pos hex]
    obtain ⟨r2, s2, h2⟩ := hex.choose_spec
    have e1 := evalC_le (Nat.le_max_left n hex.choose) hn
    have e2 := evalC_le (Nat.le_max_right n hex.choose) h2
    rw [h2]
    rw [e1] at e2
    exact e2.symm
theorem loc_w {fn rnd c tm} : Loc (wF E fn rnd c tm) := by
  intro s a s' h
  obtain ⟨n, hn⟩ := wF_ok.1 h
  obtain ⟨r, w, o, d⟩ := (evalC E n fn rnd c tm).loc _ _ _ hn
  exact ⟨r, w, o, d.next, d.rds, d.wrs, d.obs, d.rest, d.live, fun t h1 h2 h3 => by
    obtain ⟨t', e, k⟩ := d.again t h1 h2 h3
    exact ⟨t', wF_ok.2 ⟨n, e⟩, k⟩, d.orc, d.rlive⟩
/-- Code, without fuel. -/
noncomputable def evalW (E : Env) : Rec := fun fn rnd c tm => ⟨wF E fn rnd c tm, loc_w⟩
theorem evalW_ok {fn rnd c tm s r s'} : (evalW E fn rnd c tm).run s = .ok r s' ↔ ∃ n, (evalC E n fn rnd c tm).run s = .ok r s' := wF_ok
theorem uses_fuel : ∀ L : List Use, (∀ u ∈ L, u.In (evalW E)) → ∃ n, ∀ u ∈ L, u.In (evalC E n) := by
  intro L
  induction L with
  | nil => intro _; exact ⟨0, fun _ h => by cases h⟩
  | cons u L ih =>
    intro h
    obtain ⟨n, hn⟩ := ih fun v hv => h v (List.mem_cons.2 (.inr hv))
    obtain ⟨m, hm⟩ := evalW_ok.1 (h u (List.mem_cons.2 (.inl rfl)))
    refine ⟨max n m, fun v hv => ?_⟩
    rcases List.mem_cons.1 hv with rfl | hv
    · exact evalC_le (Nat.le_max_right n m) hm
    · exact evalC_le (Nat.le_max_left n m) (hn v hv)
theorem Fin1.fuel {α : Type} {X : Rec → M α} (hX : Fin1 X) {s a s'} (h : (X (evalW E)).run s = .ok a s') : ∃ n, (X (evalC E n)).run s = .ok a s' := by
  obtain ⟨L, q, r⟩ := hX.out _ _ _ _ h
  obtain ⟨n, hn⟩ := uses_fuel L q
  exact ⟨n, r _ hn⟩
/-- It is what one step and the rest make. -/
theorem evalW_step {fn rnd c tm s r s'} (h : (step E (evalW E) fn rnd c tm).run s = .ok r s') : (evalW E fn rnd c tm).run s = .ok r s' := by
  obtain ⟨n, hn⟩ := (fin_step fn rnd c tm).fuel h
  exact evalW_ok.2 ⟨n + 1, hn⟩
theorem evalW_sim : SimC E.P (evalW E) := by
  intro fn rnd c tm e tm' s s' h
  obtain ⟨n, hn⟩ := evalW_ok.1 h
  exact evalC_sim n fn rnd c tm e tm' s s' hn
#print axioms evalW_sim
end Go.Am
