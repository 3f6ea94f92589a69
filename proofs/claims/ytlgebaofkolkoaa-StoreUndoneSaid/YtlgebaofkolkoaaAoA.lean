/- The abstract machine. -/
import Derived.Test.YtlgebaofkolkoaaAnF
set_option linter.unusedSimpArgs false
set_option linter.unusedVariables false
namespace Go.Am
open Go
structure Use where
 fn : FuncId
 rnd : Option Nat
 c : Code
 tm : List a9
 s : St
 e : fQ
 tm' : List a9
 s' : St
def Use.In (u : Use) (rec : Rec) : Prop := (rec u.fn u.rnd u.c u.tm).run u.s = .ok (u.e, u.tm') u.s'
structure fP {α : Type} (X : Rec → M α) : Prop where
 out : ∀ rec s a s', (X rec).run s = .ok a s' → ∃ L : List Use, (∀ u ∈ L, u.In rec) ∧ ∀ rec', (∀ u ∈ L, u.In rec') → (X rec').run s = .ok a s'
theorem fP.const {α : Type} (m : M α) : fP (fun _ => m) := ⟨fun _ s a s' h => ⟨[], (fun _ hu => by cases hu), fun _ _ => h⟩⟩
theorem fP.use (fn : FuncId) (rnd : Option Nat) (c : Code) (tm : List a9) : fP (fun rec => rec fn rnd c tm) := ⟨fun rec s a s' h =>
 ⟨[⟨fn, rnd, c, tm, s, a.1, a.2, s'⟩], fun u hu => by simp only [List.mem_singleton] at hu; subst hu; exact h, fun rec' hr => hr _ (List.mem_singleton.2 rfl)⟩⟩
theorem fP.bind {α β : Type} {X : Rec → M α} {f : Rec → α → M β} (hX : fP X) (hf : ∀ a, fP (fun rec => f rec a)) : fP (fun rec => (X rec).bind (f rec)) := by
 refine ⟨fun rec s b s2 h => ?_⟩
 obtain ⟨a, s1, h1, h2⟩ := M.aM h
 obtain ⟨L1, q1, r1⟩ := hX.out rec s a s1 h1
 obtain ⟨L2, q2, r2⟩ := (hf a).out rec s1 b s2 h2
 refine ⟨L1 ++ L2, fun u hu => (List.mem_append.1 hu).elim (q1 u) (q2 u), fun rec' hr => ?_⟩
 have e1 := r1 rec' fun u hu => hr u (List.mem_append.2 (.inl hu))
 have e2 := r2 rec' fun u hu => hr u (List.mem_append.2 (.inr hu))
 simp only [M.bind, lK, e1, e2]
variable {E : Env}
theorem xZ (f : FuncId) (args : List a9) : fP (fun rec => aZ E rec f args) := by
 unfold aZ
 split
 ·exact fP.bind (.use ..) fun r => .const _
 ·exact .const _
theorem D7 (f : FuncId) (args : List a9) {k : Rec → M a9} (hk : fP k) : ∀ l : List (sW E.P), fP (fun rec => sO E l f args (k rec)) := by
 intro l
 induction l with
 | nil => exact hk
 | cons h l ih =>
  simp only [sO]
  split
  ·exact .const _
  ·exact ih
theorem y0 (f : FuncId) (args : List a9) : fP (fun rec => bT E rec f args) := D7 f args (xZ f args) E.hooks
theorem xY {α : Type} {k : Rec → lN → M α} (hk : ∀ l, fP (fun rec => k rec l)) (b : Blk) : fP (fun rec => dM (k rec) b) := by
 unfold dM
 split
 ·exact hk _
 ·exact .const _
theorem B5 (id : Nat) (args : List a9) : fP (fun rec => qK rec id args) := by
 unfold qK
 refine fP.bind (.const _) fun b => xY (fun l => ?_) b
 split
 ·exact .const _
 ·split
  ·refine fP.bind (.use ..) fun r => ?_
   split
   ·refine fP.bind (.const _) fun b => xY (fun l2 => ?_) b
    split
    ·refine fP.bind (.const _) fun _ => fP.bind (.use ..) fun r2 => ?_
     exact .const _
    ·exact .const _
   ·exact .const _
  ·exact .const _
theorem GG (f : a9) (args : List a9) : fP (fun rec => jA E rec f args) := by
 unfold jA
 split
 ·split
  ·exact y0 _ _
  ·split
   ·exact B5 _ _
   ·exact .const _
  ·exact .const _
 ·exact .const _
theorem D9 (tm : List a9) (c : Call) : fP (fun rec => aI E rec tm c) := by
 unfold aI
 split
 ·exact GG _ _
 ·exact .const _
 ·exact .const _
theorem D8 (tm : List a9) (o : Op) : fP (fun rec => execOp E rec tm o) := by
 unfold execOp
 split
 all_goals first
  | exact .const _
  | exact D9 _ _
theorem EM (ops : List Oper) (o : Oper) (tm : List a9) : fP (fun rec => opV E rec ops o tm) := by
 unfold opV
 refine fP.bind (.const _) fun w => ?_
 split
 ·exact D8 _ _
 ·exact .const _
theorem B6 (ops : List Oper) : ∀ (l : List Oper) (tm : List a9), fP (fun rec => jP E rec ops l tm) := by
 intro l
 induction l with
 | nil => intro tm; exact .const _
 | cons o l ih =>
  intro tm
  simp only [jP, FZ]
  exact fP.bind (fP.bind (EM ops o tm) fun v => .const _) fun tm => ih tm
theorem KB {α : Type} (j : Nat) {X : Rec → M α} (hX : fP X) : fP (fun rec => jI j (X rec)) := by
 refine ⟨fun rec s a s' h => ?_⟩
 simp only [jI, lG] at h
 cases hm : (X rec).run { s with rds := [], wrs := [] } with
 | fail w => rw [hm] at h; cases h
 | ask b => rw [hm] at h; cases h
 | ok a1 s1 =>
  rw [hm] at h
  obtain ⟨L, q, r⟩ := hX.out rec _ _ _ hm
  refine ⟨L, q, fun rec' hr => ?_⟩
  simp only [jI, lG, r rec' hr]
  exact h
theorem zL (ops : List Oper) : ∀ (l : List Oper) (j : Nat) (tm : List a9) (fs : List fN), fP (fun rec => iQ E rec ops j l tm fs) := by
 intro l
 induction l with
 | nil => intro j tm fs; exact .const _
 | cons o l ih =>
  intro j tm fs
  simp only [iQ]
  exact fP.bind (KB j (EM ops o tm)) fun r => ih _ _ _
theorem vL (fn : FuncId) (rnd : Option Nat) (c : Code) (tm : List a9) : fP (fun rec => step E rec fn rnd c tm) := by
 unfold step
 split
 ·exact .const _
 ·exact .const _
 ·split
  ·exact fP.bind (B6 _ _ _) fun _ => .const _
  ·split
   ·exact .const _
   ·unfold vN
    exact fP.bind (fP.bind (.const _) fun _ => fP.bind (zL _ _ _ _ _) fun _ => .const _) fun _ => .const _
 ·refine fP.bind (.use ..) fun r => ?_
  split
  ·exact .use ..
  ·exact .const _
 ·refine fP.bind (.const _) fun t => ?_
  split
  ·exact .use ..
  ·exact .use ..
 ·split
  ·exact .const _
  ·refine fP.bind (.use ..) fun r => ?_
   exact .const _
 ·refine fP.bind (.use ..) fun r => ?_
  split
  ·exact .use ..
  ·exact .const _
 ·split
  ·split
   ·split
    ·exact fP.bind (.const _) fun _ => fP.bind (.const _) fun id => fP.bind (y0 _ _) fun _ => .const _
    ·exact .const _
   ·exact .const _
  ·exact .const _
 ·exact .const _
 ·exact .use ..
 ·exact .const _
 ·exact .const _
theorem DC : ∀ n fn rnd c tm s r s', (j9 E n fn rnd c tm).run s = .ok r s' → (j9 E (n + 1) fn rnd c tm).run s = .ok r s' := by
 intro n
 induction n with
 | zero => intro fn rnd c tm s r s' h; cases h
 | succ n ih =>
  intro fn rnd c tm s r s' h
  obtain ⟨L, q, hr⟩ := (vL fn rnd c tm).out (j9 E n) s r s' h
  exact hr (j9 E (n + 1)) fun u hu => ih _ _ _ _ _ _ _ (q u hu)
theorem rG {n m : Nat} (hm : n ≤ m) {fn rnd c tm s r s'} (h : (j9 E n fn rnd c tm).run s = .ok r s') : (j9 E m fn rnd c tm).run s = .ok r s' := by
 induction hm with
 | refl => exact h
 | step _ ih => exact DC _ _ _ _ _ _ _ _ ih
open Classical in
noncomputable def wF (E : Env) (fn : FuncId) (rnd : Option Nat) (c : Code) (tm : List a9) (s : St) : Res (fQ × List a9) :=
 if h : ∃ n r s', (j9 E n fn rnd c tm).run s = .ok r s' then (j9 E h.choose fn rnd c tm).run s else .fail "no end"
theorem HC {fn rnd c tm s r s'} : wF E fn rnd c tm s = .ok r s' ↔ ∃ n, (j9 E n fn rnd c tm).run s = .ok r s' := by
 unfold wF
 constructor
 ·intro h
  split at h
  ·exact ⟨_, h⟩
  ·cases h
 ·rintro ⟨n, hn⟩
  have hex : ∃ n r s', (j9 E n fn rnd c tm).run s = .ok r s' := ⟨n, r, s', hn⟩
  rw [dif_pos hex]
  obtain ⟨r2, s2, h2⟩ := hex.choose_spec
  have e1 := rG (Nat.le_max_left n hex.choose) hn
  have e2 := rG (Nat.le_max_right n hex.choose) h2
  rw [h2]
  rw [e1] at e2
  exact e2.symm
theorem X2 {fn rnd c tm} : Loc (wF E fn rnd c tm) := by
 intro s a s' h
 obtain ⟨n, hn⟩ := HC.1 h
 obtain ⟨r, w, o, d⟩ := (j9 E n fn rnd c tm).loc _ _ _ hn
 exact ⟨r, w, o, d.next, d.rds, d.wrs, d.obs, d.rest, d.live, fun t h1 h2 h3 => by
  obtain ⟨t', e, k⟩ := d.again t h1 h2 h3
  exact ⟨t', HC.2 ⟨n, e⟩, k⟩, d.orc, d.rlive⟩
noncomputable def evalW (E : Env) : Rec := fun fn rnd c tm => ⟨wF E fn rnd c tm, X2⟩
theorem oF {fn rnd c tm s r s'} : (evalW E fn rnd c tm).run s = .ok r s' ↔ ∃ n, (j9 E n fn rnd c tm).run s = .ok r s' := HC
theorem F8 : ∀ L : List Use, (∀ u ∈ L, u.In (evalW E)) → ∃ n, ∀ u ∈ L, u.In (j9 E n) := by
 intro L
 induction L with
 | nil => intro _; exact ⟨0, fun _ h => by cases h⟩
 | cons u L ih =>
  intro h
  obtain ⟨n, hn⟩ := ih fun v hv => h v (List.mem_cons.2 (.inr hv))
  obtain ⟨m, hm⟩ := oF.1 (h u (List.mem_cons.2 (.inl rfl)))
  refine ⟨max n m, fun v hv => ?_⟩
  rcases List.mem_cons.1 hv with rfl | hv
  ·exact rG (Nat.le_max_right n m) hm
  ·exact rG (Nat.le_max_left n m) (hn v hv)
theorem fP.fuel {α : Type} {X : Rec → M α} (hX : fP X) {s a s'} (h : (X (evalW E)).run s = .ok a s') : ∃ n, (X (j9 E n)).run s = .ok a s' := by
 obtain ⟨L, q, r⟩ := hX.out _ _ _ _ h
 obtain ⟨n, hn⟩ := F8 L q
 exact ⟨n, r _ hn⟩
theorem DB {fn rnd c tm s r s'} (h : (step E (evalW E) fn rnd c tm).run s = .ok r s') : (evalW E fn rnd c tm).run s = .ok r s' := by
 obtain ⟨n, hn⟩ := (vL fn rnd c tm).fuel h
 exact oF.2 ⟨n + 1, hn⟩
theorem pA : mQ E.P (evalW E) := by
 intro fn rnd c tm e tm' s s' h
 obtain ⟨n, hn⟩ := oF.1 h
 exact y8 n fn rnd c tm e tm' s s' hn
end Go.Am
