/- Code, gone through from the front: what is to come stands by as data. -/
import Derived.Test.YtmoplhbncjicbaaAoB
set_option linter.unusedSimpArgs false
set_option linter.unusedVariables false
namespace Go.Am
open Go Go.RowKit

inductive Kf where
  | seq (c : Code)
  | block (id : Nat)
  | loop (c : Code)
abbrev Post0 := AExit → List AVal → Hp → Nat → Prop
variable {E : Env}
def Kont (E : Env) (fn : FuncId) (rnd : Option Nat) (Q : Post0) : List Kf → AExit → List AVal → Hp → Nat → Prop
  | [], e, tm, h, n => Q e tm h n
  | .seq c :: ks, e, tm, h, n => match e with
    | .normal => Wp (evalW E fn rnd c tm) h n fun r h' n' => Kont E fn rnd Q ks r.1 r.2 h' n'
    | e => Kont E fn rnd Q ks e tm h n
  | .block id :: ks, e, tm, h, n => match e with
    | .exit j => match j.beq id with
      | true => Kont E fn rnd Q ks .normal tm h n
      | false => Kont E fn rnd Q ks (.exit j) tm h n
    | e => Kont E fn rnd Q ks e tm h n
  | .loop c :: ks, e, tm, h, n => match e with
    | .normal => Wp (evalW E fn rnd (.loop c) tm) h n fun r h' n' => Kont E fn rnd Q ks r.1 r.2 h' n'
    | e => Kont E fn rnd Q ks e tm h n
def Run (E : Env) (fn : FuncId) (rnd : Option Nat) (Q : Post0) (c : Code) (ks : List Kf) (tm : List AVal) (h : Hp) (n : Nat) : Prop :=
  Wp (evalW E fn rnd c tm) h n fun r h' n' => Kont E fn rnd Q ks r.1 r.2 h' n'
def Ops (E : Env) (fn : FuncId) (rnd : Option Nat) (Q : Post0) (ks : List Kf) (ops rest : List Oper) (tm : List AVal) (h : Hp) (n : Nat) : Prop :=
  Wp (evalOps E (evalW E) ops rest tm) h n fun tm h' n' => Kont E fn rnd Q ks .normal (forget E fn tm) h' n'
def OpV (E : Env) (fn : FuncId) (rnd : Option Nat) (Q : Post0) (ks : List Kf) (ops rest : List Oper) (d : Option Tmp) (tm : List AVal) (m : M AVal) (h : Hp) (n : Nat) : Prop :=
  Wp m h n fun v h' n' => Ops E fn rnd Q ks ops rest (putT tm d v) h' n'
/-- An operation that is wanted or not. -/
def OpG (E : Env) (fn : FuncId) (rnd : Option Nat) (Q : Post0) (ks : List Kf) (ops rest : List Oper) (d : Option Tmp) (tm : List AVal) (o : Op) (want : Bool) (v : AVal) (h : Hp) (n : Nat) : Prop :=
  Wp (wantB want v) h n fun w h' n' => match w with
    | true => OpV E fn rnd Q ks ops rest d tm (execOp E (evalW E) tm o) h' n'
    | false => Ops E fn rnd Q ks ops rest (putT tm d undef) h' n'
def If (E : Env) (fn : FuncId) (rnd : Option Nat) (Q : Post0) (v : AVal) (a b : Code) (ks : List Kf) (tm : List AVal) (h : Hp) (n : Nat) : Prop :=
  Wp (branch v) h n fun t h' n' => match t with
    | true => Run E fn rnd Q a ks tm h' n'
    | false => Run E fn rnd Q b ks tm h' n'
variable {fn : FuncId} {rnd : Option Nat} {Q : Post0} {ks : List Kf} {tm : List AVal} {h : Hp} {n : Nat}

theorem evalW_iff {c : Code} {s : St} {r : AExit × List AVal} {s' : St} : (evalW E fn rnd c tm).run s = .ok r s' ↔ (step E (evalW E) fn rnd c tm).run s = .ok r s' := by
  refine ⟨fun hw => ?_, evalW_step⟩
  obtain ⟨k, hk⟩ := evalW_ok.1 hw
  cases k with
  | zero => cases hk
  | succ k =>
    obtain ⟨L, q, hr⟩ := (fin_step fn rnd c tm).out (evalC E k) s r s' hk
    exact hr (evalW E) fun u hu => evalW_ok.2 ⟨k, q u hu⟩
theorem wp_step {c : Code} {Q : AExit × List AVal → Hp → Nat → Prop} : Wp (evalW E fn rnd c tm) h n Q ↔ Wp (step E (evalW E) fn rnd c tm) h n Q := by
  constructor
  · rintro ⟨s, a, s', h1, h2, h3⟩
    exact ⟨s, a, s', h1, ⟨evalW_iff.1 h2.run, h2.obs, h2.oc⟩, h3⟩
  · rintro ⟨s, a, s', h1, h2, h3⟩
    exact ⟨s, a, s', h1, ⟨evalW_iff.2 h2.run, h2.obs, h2.oc⟩, h3⟩
theorem wp_imp {α : Type} {m : M α} {Q Q' : α → Hp → Nat → Prop} (hq : ∀ a h' n', Q a h' n' ↔ Q' a h' n') : Wp m h n Q ↔ Wp m h n Q' :=
  ⟨fun hw => wp_mono hw fun a h' n' => (hq a h' n').1, fun hw => wp_mono hw fun a h' n' => (hq a h' n').2⟩

/-! ### Code -/
theorem run_skip : Run E fn rnd Q .skip ks tm h n ↔ Kont E fn rnd Q ks .normal tm h n := by
  unfold Run; rw [wp_step]; simp only [step, wp_pure]
theorem run_label {l : Nat} : Run E fn rnd Q (.label l) ks tm h n ↔ Kont E fn rnd Q ks .normal tm h n := by
  unfold Run; rw [wp_step]; simp only [step, wp_pure]
theorem run_exit {l : Nat} : Run E fn rnd Q (.exit l) ks tm h n ↔ Kont E fn rnd Q ks (.exit l) tm h n := by
  unfold Run; rw [wp_step]; simp only [step, wp_pure]
theorem run_ret : Run E fn rnd Q .ret ks tm h n ↔ Kont E fn rnd Q ks .ret tm h n := by
  unfold Run; rw [wp_step]; simp only [step, wp_pure]
theorem run_seq {a b : Code} : Run E fn rnd Q (.seq a b) ks tm h n ↔ Run E fn rnd Q a (.seq b :: ks) tm h n := by
  unfold Run; rw [wp_step]; simp only [step, wp_bind_iff]
  refine wp_imp fun r h' n' => ?_
  obtain ⟨e, tm'⟩ := r
  cases e <;> simp only [Kont, wp_pure]
theorem run_scope {a : Code} : Run E fn rnd Q (.scope a) ks tm h n ↔ Run E fn rnd Q a ks tm h n := by
  unfold Run; rw [wp_step]; simp only [step]
theorem run_block {id : Nat} {a : Code} (hn : noHook E.bhooks fn id = true) : Run E fn rnd Q (.block id a) ks tm h n ↔ Run E fn rnd Q a (.block id :: ks) tm h n := by
  unfold Run; rw [wp_step]; simp only [step, chook_none hn, wp_bind_iff]
  refine wp_imp fun r h' n' => ?_
  obtain ⟨e, tm'⟩ := r
  cases e with
  | normal => simp only [Kont, wp_pure]
  | ret => simp only [Kont, wp_pure]
  | exit j => simp only [Kont]; cases j.beq id <;> simp only [wp_pure]
/-- A block that is taken by its contract. -/
theorem run_bhook {id : Nat} {a : Code} {act : List AVal → M (AExit × List AVal)} (hk : chookAt E.bhooks fn id (.block id a) = some act) (hw : Wp (act tm) h n fun r h' n' => Kont E fn rnd Q ks r.1 r.2 h' n') : Run E fn rnd Q (.block id a) ks tm h n := by
  unfold Run; rw [wp_step]; simp only [step, hk]; exact hw
theorem run_rhook {id : Nat} {ops : Array Oper} {act : List AVal → M (AExit × List AVal)} (hk : chookAt E.rhooks fn id (.region id ops true) = some act) (hw : Wp (act tm) h n fun r h' n' => Kont E fn rnd Q ks r.1 r.2 h' n') : Run E fn rnd Q (.region id ops true) ks tm h n := by
  unfold Run; rw [wp_step]; simp only [step, hk]; exact hw
theorem run_loop {a : Code} : Run E fn rnd Q (.loop a) ks tm h n ↔ Run E fn rnd Q a (.loop a :: ks) tm h n := by
  unfold Run; rw [wp_step]; simp only [step, wp_bind_iff]
  refine wp_imp fun r h' n' => ?_
  obtain ⟨e, tm'⟩ := r
  cases e <;> simp only [Kont, wp_pure]
theorem run_cond {c : Operand} {a b : Code} : Run E fn rnd Q (.cond c a b) ks tm h n ↔ If E fn rnd Q (opd tm c) a b ks tm h n := by
  unfold Run If; rw [wp_step]; simp only [step, wp_bind_iff]
  refine wp_imp fun t h' n' => ?_
  cases t <;> rfl
theorem run_region {id : Nat} {ops : Array Oper} : Run E fn rnd Q (.region id ops false) ks tm h n ↔ Ops E fn rnd Q ks ops.toList ops.toList tm h n := by
  unfold Run Ops; rw [wp_step]; simp only [step, wp_bind_iff, wp_pure]
theorem if_true {a b : Code} : If E fn rnd Q (.bool true) a b ks tm h n ↔ Run E fn rnd Q a ks tm h n := by
  simp only [If, branch, wp_ask']
theorem if_false {a b : Code} : If E fn rnd Q (.bool false) a b ks tm h n ↔ Run E fn rnd Q b ks tm h n := by
  simp only [If, branch, wp_ask']
theorem if_btrue {a b : Code} : If E fn rnd Q (.blit true) a b ks tm h n ↔ Run E fn rnd Q a ks tm h n := by
  simp only [If, branch, wp_pure]
theorem if_bfalse {a b : Code} : If E fn rnd Q (.blit false) a b ks tm h n ↔ Run E fn rnd Q b ks tm h n := by
  simp only [If, branch, wp_pure]
theorem if_bool {t : Bool} {a b : Code} : If E fn rnd Q (.bool t) a b ks tm h n ↔ (t = true → Run E fn rnd Q a ks tm h n) ∧ (t = false → Run E fn rnd Q b ks tm h n) := by
  cases t <;> simp [if_true, if_false]
theorem cont_seq {c : Code} : Kont E fn rnd Q (.seq c :: ks) .normal tm h n ↔ Run E fn rnd Q c ks tm h n := Iff.rfl
theorem cont_seq_ret {c : Code} : Kont E fn rnd Q (.seq c :: ks) .ret tm h n ↔ Kont E fn rnd Q ks .ret tm h n := Iff.rfl
theorem cont_seq_exit {c : Code} {j : Nat} : Kont E fn rnd Q (.seq c :: ks) (.exit j) tm h n ↔ Kont E fn rnd Q ks (.exit j) tm h n := Iff.rfl
theorem cont_block {i : Nat} : Kont E fn rnd Q (.block i :: ks) .normal tm h n ↔ Kont E fn rnd Q ks .normal tm h n := Iff.rfl
theorem cont_block_ret {i : Nat} : Kont E fn rnd Q (.block i :: ks) .ret tm h n ↔ Kont E fn rnd Q ks .ret tm h n := Iff.rfl
theorem cont_block_same {i : Nat} : Kont E fn rnd Q (.block i :: ks) (.exit i) tm h n ↔ Kont E fn rnd Q ks .normal tm h n := by
  simp only [Kont, Nat.beq_refl]
theorem cont_block_exit {i j : Nat} (hn : (j.beq i) = false) : Kont E fn rnd Q (.block i :: ks) (.exit j) tm h n ↔ Kont E fn rnd Q ks (.exit j) tm h n := by
  simp only [Kont, hn]
theorem cont_loop {c : Code} : Kont E fn rnd Q (.loop c :: ks) .normal tm h n ↔ Run E fn rnd Q (.loop c) ks tm h n := Iff.rfl
theorem cont_loop_ret {c : Code} : Kont E fn rnd Q (.loop c :: ks) .ret tm h n ↔ Kont E fn rnd Q ks .ret tm h n := Iff.rfl
theorem cont_loop_exit {c : Code} {j : Nat} : Kont E fn rnd Q (.loop c :: ks) (.exit j) tm h n ↔ Kont E fn rnd Q ks (.exit j) tm h n := Iff.rfl
theorem cont_nil {e : AExit} : Kont E fn rnd Q [] e tm h n ↔ Q e tm h n := Iff.rfl

/-! ### Regions -/
variable {ops rest : List Oper} {d : Option Tmp}
theorem ops_nil : Ops E fn rnd Q ks ops [] tm h n ↔ Kont E fn rnd Q ks .normal (forget E fn tm) h n := by
  unfold Ops; simp only [evalOps, wp_pure]
theorem ops_cons {op : Op} {ty : TypeId} {pos : String} {af : Array Edge} : Ops E fn rnd Q ks ops (⟨d, op, ty, pos, af, none⟩ :: rest) tm h n ↔ OpV E fn rnd Q ks ops rest d tm (execOp E (evalW E) tm op) h n := by
  unfold Ops OpV; simp only [evalOps, opAt, opV, wanted, bind_pure, wp_bind_iff, wp_pure]; rfl
/-- .. by the operation that guards it. -/
def OpGo (E : Env) (fn : FuncId) (rnd : Option Nat) (Q : Post0) (ks : List Kf) (ops rest : List Oper) (d : Option Tmp) (tm : List AVal) (o : Op) (want : Bool) (g : Option Oper) (h : Hp) (n : Nat) : Prop :=
  match g.bind (·.dst) with
  | some g => OpG E fn rnd Q ks ops rest d tm o want (nth tm g undef) h n
  | none => Ops E fn rnd Q ks ops rest (putT tm d undef) h n
theorem ops_guard {op : Op} {ty : TypeId} {pos : String} {af : Array Edge} {j : Nat} {want : Bool} :
    Ops E fn rnd Q ks ops (⟨d, op, ty, pos, af, some (j, want)⟩ :: rest) tm h n ↔ OpGo E fn rnd Q ks ops rest d tm op want ops[j]? h n := by
  unfold OpGo
  cases hg : (ops[j]?).bind (·.dst) with
  | none =>
    unfold Ops; simp only [evalOps, opAt, opV, wanted, hg, wp_bind_iff, wp_pure]
  | some g =>
    unfold Ops OpG; simp only [evalOps, opAt, opV, wanted, hg, wp_bind_iff, wp_pure]
    refine wp_imp fun w h' n' => ?_
    cases w <;> simp only [wp_pure, Ops, OpV]
theorem opgo_some {op : Op} {want : Bool} {g : Tmp} {o2 : Op} {ty : TypeId} {pos : String} {af : Array Edge} {gg : Option (Nat × Bool)} :
    OpGo E fn rnd Q ks ops rest d tm op want (some ⟨some g, o2, ty, pos, af, gg⟩) h n ↔ OpG E fn rnd Q ks ops rest d tm op want (nth tm g undef) h n := Iff.rfl
theorem opg_bool {op : Op} {want t : Bool} : OpG E fn rnd Q ks ops rest d tm op want (.bool t) h n ↔ OpG E fn rnd Q ks ops rest d tm op want (.blit t) h n := by
  simp only [OpG, wantB, wp_ask, wp_pure]
theorem opg_tt {op : Op} : OpG E fn rnd Q ks ops rest d tm op true (.blit true) h n ↔ OpV E fn rnd Q ks ops rest d tm (execOp E (evalW E) tm op) h n := by
  simp only [OpG, wantB, wp_pure]; rfl
theorem opg_ff {op : Op} : OpG E fn rnd Q ks ops rest d tm op false (.blit false) h n ↔ OpV E fn rnd Q ks ops rest d tm (execOp E (evalW E) tm op) h n := by
  simp only [OpG, wantB, wp_pure]; rfl
theorem opg_tf {op : Op} : OpG E fn rnd Q ks ops rest d tm op true (.blit false) h n ↔ Ops E fn rnd Q ks ops rest (putT tm d undef) h n := by
  simp only [OpG, wantB, wp_pure]; rfl
theorem opg_ft {op : Op} : OpG E fn rnd Q ks ops rest d tm op false (.blit true) h n ↔ Ops E fn rnd Q ks ops rest (putT tm d undef) h n := by
  simp only [OpG, wantB, wp_pure]; rfl
theorem opg_undef {op : Op} {want : Bool} {l : List AVal} : OpG E fn rnd Q ks ops rest d tm op want (.tup l) h n ↔ Ops E fn rnd Q ks ops rest (putT tm d undef) h n := by
  simp only [OpG, wantB, wp_pure]
theorem opv_pure {v : AVal} : OpV E fn rnd Q ks ops rest d tm (M.pure v) h n ↔ Ops E fn rnd Q ks ops rest (putT tm d v) h n := by
  simp only [OpV, wp_pure]
theorem opv_fail {w : String} : OpV E fn rnd Q ks ops rest d tm (fail w) h n ↔ False := by
  simp only [OpV, wp_fail]
theorem opv_get {id : Nat} {f : Blk → M AVal} : OpV E fn rnd Q ks ops rest d tm ((getB id).bind f) h n ↔ ∃ b, h id = some b ∧ OpV E fn rnd Q ks ops rest d tm (f b) h n := by
  simp only [OpV, wp_get]
theorem opv_set {id : Nat} {b : Blk} {f : Unit → M AVal} : OpV E fn rnd Q ks ops rest d tm ((setB id b).bind f) h n ↔ h id ≠ none ∧ OpV E fn rnd Q ks ops rest d tm (f ()) (upd h id (some b)) n := by
  simp only [OpV, wp_set]
theorem opv_kill {id : Nat} {f : Unit → M AVal} : OpV E fn rnd Q ks ops rest d tm ((kill id).bind f) h n ↔ h id ≠ none ∧ OpV E fn rnd Q ks ops rest d tm (f ()) (upd h id none) n := by
  simp only [OpV, wp_kill]
theorem opv_new {b : Blk} {f : Nat → M AVal} : OpV E fn rnd Q ks ops rest d tm ((newB b).bind f) h n ↔ OpV E fn rnd Q ks ops rest d tm (f n) (upd h n (some b)) (n + 1) := by
  simp only [OpV, wp_new]
theorem opv_ob {b : Bool} {f : Unit → M AVal} : OpV E fn rnd Q ks ops rest d tm ((ob b).bind f) h n ↔ b = true ∧ OpV E fn rnd Q ks ops rest d tm (f ()) h n := by
  simp only [OpV, wp_ob]
theorem opv_ask {b : Bool} {f : Bool → M AVal} : OpV E fn rnd Q ks ops rest d tm ((ask b).bind f) h n ↔ OpV E fn rnd Q ks ops rest d tm (f b) h n := by
  simp only [OpV, wp_ask]
theorem opv_bind {α : Type} {m : M α} {f : α → M AVal} : OpV E fn rnd Q ks ops rest d tm (m.bind f) h n ↔ Wp m h n fun a h' n' => OpV E fn rnd Q ks ops rest d tm (f a) h' n' := by
  simp only [OpV, wp_bind_iff]
/-- By a contract. -/
theorem opv_call {m : M AVal} {Q1 : AVal → Hp → Nat → Prop} (hw : Wp m h n Q1) (hq : ∀ v h' n', n ≤ n' → Q1 v h' n' → Ops E fn rnd Q ks ops rest (putT tm d v) h' n') : OpV E fn rnd Q ks ops rest d tm m h n :=
  wp_mono hw.next fun a h' n' hh => hq a h' n' hh.2 hh.1
theorem opv_same {m : M AVal} {v : AVal} {h1 : Hp} {n1 : Nat} (hw : Wp m h n fun v' h' n' => v' = v ∧ h' = h1 ∧ n' = n1) (hq : Ops E fn rnd Q ks ops rest (putT tm d v) h1 n1) : OpV E fn rnd Q ks ops rest d tm m h n :=
  wp_same hw hq

/-! ### Calls of functions -/
/-- A function's body, with its arguments, from its start to its results. -/
theorem wp_callI {f : FuncId} {args : List AVal} {i : FI} {Q : AVal → Hp → Nat → Prop} (hf : (E.funcs.find f).f.beq f = true) (hi : (E.funcs.find f).i = i)
    (hr : Run E f none (fun e tm h' n' => (match e with | .exit _ => False | _ => True) ∧ Wp (ended E tm i.results) h' n' Q) i.body [] (args ++ List.replicate (i.ntmps - args.length) undef) h n) :
    Wp (callI E (evalW E) f args) h n Q := by
  unfold callI
  rw [hf]
  simp only [hi, wp_bind_iff]
  refine wp_mono hr fun r h' n' hq => ?_
  obtain ⟨e, tm'⟩ := r
  simp only [Kont] at hq
  cases e with
  | exit j => exact hq.1.elim
  | normal => exact hq.2
  | ret => exact hq.2
theorem run_mono {c : Code} {Q' : Post0} (hr : Run E fn rnd Q c ks tm h n) (hq : ∀ e tm h n, Q e tm h n → Q' e tm h n) : Run E fn rnd Q' c ks tm h n := by
  have cm : ∀ ks e tm h n, Kont E fn rnd Q ks e tm h n → Kont E fn rnd Q' ks e tm h n := by
    intro ks
    induction ks with
    | nil => intro e tm h n hc; exact hq _ _ _ _ hc
    | cons k ks ih =>
      intro e tm h n hc
      cases k with
      | seq c =>
        cases e with
        | normal => exact wp_mono hc fun _ _ _ => ih _ _ _ _
        | ret => exact ih _ _ _ _ hc
        | exit j => exact ih _ _ _ _ hc
      | loop c =>
        cases e with
        | normal => exact wp_mono hc fun _ _ _ => ih _ _ _ _
        | ret => exact ih _ _ _ _ hc
        | exit j => exact ih _ _ _ _ hc
      | block id =>
        cases e with
        | normal => exact ih _ _ _ _ hc
        | ret => exact ih _ _ _ _ hc
        | exit j =>
          simp only [Kont] at hc ⊢
          cases hj : j.beq id with
          | true => rw [hj] at hc; exact ih _ _ _ _ hc
          | false => rw [hj] at hc; exact ih _ _ _ _ hc
  exact wp_mono hr fun _ _ _ => cm _ _ _ _ _
/-- .. cut: what a piece of code does, and what comes. -/
theorem run_cut {c : Code} {Q1 : Post0} (hr : Run E fn rnd Q1 c [] tm h n) (hq : ∀ e tm' h' n', n ≤ n' → Q1 e tm' h' n' → Kont E fn rnd Q ks e tm' h' n') : Run E fn rnd Q c ks tm h n :=
  wp_mono (Wp.next hr) fun r h' n' hh => hq _ _ _ _ hh.2 hh.1
/-- A whole call, from the model's point of view. -/
theorem calls_of {f : FuncId} {args : List AVal} {xs : Array Value} {w : World} {Q : AVal → Hp → Nat → Prop} (hw : Wp (callI E (evalW E) f args) (fun _ => none) 0 Q) (hx : RL (fun _ => none) (oldMem w) args xs) :
    Calls E.P f xs w fun e w' => ∃ v h n x ρ', Q v h n ∧ e = .returned x ∧ R ρ' (oldMem w) v x ∧ Below w.heap.size w w' := by
  obtain ⟨v, s', he, hq⟩ := wp_iff.1 hw
  obtain ⟨k, hk⟩ := (fin_callI f args).fuel he.run
  have ho : OkObs s' := by
    obtain ⟨o, e1, e2⟩ := he.obs
    unfold OkObs
    rw [e1]
    simpa [at0] using e2
  refine (call_of hk ho (fun _ => rfl) hx).mono fun e w' hh => ?_
  obtain ⟨x, ρ', h1, h2, h3⟩ := hh
  exact ⟨v, _, _, x, ρ', hq, h1, h2, h3⟩
#print axioms calls_of
end Go.Am
