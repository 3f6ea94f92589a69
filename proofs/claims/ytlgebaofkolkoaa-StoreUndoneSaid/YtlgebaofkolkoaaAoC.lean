/- The abstract machine. -/
import Derived.Test.YtlgebaofkolkoaaAoB
set_option linter.unusedSimpArgs false
set_option linter.unusedVariables false
namespace Go.Am
open Go Go.RowKit
inductive Kf where
 | seq (c : Code)
 | block (id : Nat)
 | loop (c : Code)
abbrev eB := fQ → List a9 → Hp → Nat → Prop
variable {E : Env}
def dL (E : Env) (fn : FuncId) (rnd : Option Nat) (Q : eB) : List Kf → fQ → List a9 → Hp → Nat → Prop
 | [], e, tm, h, n => Q e tm h n
 | .seq c :: ks, e, tm, h, n => match e with
  | .normal => Wp (evalW E fn rnd c tm) h n fun r h' n' => dL E fn rnd Q ks r.1 r.2 h' n'
  | e => dL E fn rnd Q ks e tm h n
 | .block id :: ks, e, tm, h, n => match e with
  | .exit j => match j.beq id with
   | true => dL E fn rnd Q ks .normal tm h n
   | false => dL E fn rnd Q ks (.exit j) tm h n
  | e => dL E fn rnd Q ks e tm h n
 | .loop c :: ks, e, tm, h, n => match e with
  | .normal => Wp (evalW E fn rnd (.loop c) tm) h n fun r h' n' => dL E fn rnd Q ks r.1 r.2 h' n'
  | e => dL E fn rnd Q ks e tm h n
def Run (E : Env) (fn : FuncId) (rnd : Option Nat) (Q : eB) (c : Code) (ks : List Kf) (tm : List a9) (h : Hp) (n : Nat) : Prop :=
 Wp (evalW E fn rnd c tm) h n fun r h' n' => dL E fn rnd Q ks r.1 r.2 h' n'
def Ops (E : Env) (fn : FuncId) (rnd : Option Nat) (Q : eB) (ks : List Kf) (ops rest : List Oper) (tm : List a9) (h : Hp) (n : Nat) : Prop :=
 Wp (jP E (evalW E) ops rest tm) h n fun tm h' n' => dL E fn rnd Q ks .normal (forget E fn tm) h' n'
def OpV (E : Env) (fn : FuncId) (rnd : Option Nat) (Q : eB) (ks : List Kf) (ops rest : List Oper) (d : Option Tmp) (tm : List a9) (m : M a9) (h : Hp) (n : Nat) : Prop :=
 Wp m h n fun v h' n' => Ops E fn rnd Q ks ops rest (aC tm d v) h' n'
def OpG (E : Env) (fn : FuncId) (rnd : Option Nat) (Q : eB) (ks : List Kf) (ops rest : List Oper) (d : Option Tmp) (tm : List a9) (o : Op) (want : Bool) (v : a9) (h : Hp) (n : Nat) : Prop :=
 Wp (kC want v) h n fun w h' n' => match w with
  | true => OpV E fn rnd Q ks ops rest d tm (execOp E (evalW E) tm o) h' n'
  | false => Ops E fn rnd Q ks ops rest (aC tm d undef) h' n'
def If (E : Env) (fn : FuncId) (rnd : Option Nat) (Q : eB) (v : a9) (a b : Code) (ks : List Kf) (tm : List a9) (h : Hp) (n : Nat) : Prop :=
 Wp (branch v) h n fun t h' n' => match t with
  | true => Run E fn rnd Q a ks tm h' n'
  | false => Run E fn rnd Q b ks tm h' n'
variable {fn : FuncId} {rnd : Option Nat} {Q : eB} {ks : List Kf} {tm : List a9} {h : Hp} {n : Nat}
theorem y7 {c : Code} {s : St} {r : fQ × List a9} {s' : St} : (evalW E fn rnd c tm).run s = .ok r s' ↔ (step E (evalW E) fn rnd c tm).run s = .ok r s' := by
 refine ⟨fun hw => ?_, DB⟩
 obtain ⟨k, hk⟩ := oF.1 hw
 cases k with
 | zero => cases hk
 | succ k =>
  obtain ⟨L, q, hr⟩ := (vL fn rnd c tm).out (j9 E k) s r s' hk
  exact hr (evalW E) fun u hu => oF.2 ⟨k, q u hu⟩
theorem iJ {c : Code} {Q : fQ × List a9 → Hp → Nat → Prop} : Wp (evalW E fn rnd c tm) h n Q ↔ Wp (step E (evalW E) fn rnd c tm) h n Q := by
 constructor
 ·rintro ⟨s, a, s', h1, h2, h3⟩
  exact ⟨s, a, s', h1, ⟨y7.1 h2.run, h2.obs, h2.oc⟩, h3⟩
 ·rintro ⟨s, a, s', h1, h2, h3⟩
  exact ⟨s, a, s', h1, ⟨y7.2 h2.run, h2.obs, h2.oc⟩, h3⟩
theorem uI {α : Type} {m : M α} {Q Q' : α → Hp → Nat → Prop} (hq : ∀ a h' n', Q a h' n' ↔ Q' a h' n') : Wp m h n Q ↔ Wp m h n Q' :=
 ⟨fun hw => wp_mono hw fun a h' n' => (hq a h' n').1, fun hw => wp_mono hw fun a h' n' => (hq a h' n').2⟩
theorem HY : Run E fn rnd Q .skip ks tm h n ↔ dL E fn rnd Q ks .normal tm h n := by
 unfold Run; rw [iJ]; simp only [step, wp_pure]
theorem FL {l : Nat} : Run E fn rnd Q (.label l) ks tm h n ↔ dL E fn rnd Q ks .normal tm h n := by
 unfold Run; rw [iJ]; simp only [step, wp_pure]
theorem HZ {l : Nat} : Run E fn rnd Q (.exit l) ks tm h n ↔ dL E fn rnd Q ks (.exit l) tm h n := by
 unfold Run; rw [iJ]; simp only [step, wp_pure]
theorem MH : Run E fn rnd Q .ret ks tm h n ↔ dL E fn rnd Q ks .ret tm h n := by
 unfold Run; rw [iJ]; simp only [step, wp_pure]
theorem run_seq {a b : Code} : Run E fn rnd Q (.seq a b) ks tm h n ↔ Run E fn rnd Q a (.seq b :: ks) tm h n := by
 unfold Run; rw [iJ]; simp only [step, dG]
 refine uI fun r h' n' => ?_
 obtain ⟨e, tm'⟩ := r
 cases e <;> simp only [dL, wp_pure]
theorem FK {a : Code} : Run E fn rnd Q (.scope a) ks tm h n ↔ Run E fn rnd Q a ks tm h n := by
 unfold Run; rw [iJ]; simp only [step]
theorem FM {id : Nat} {a : Code} (hn : bQ E.bhooks fn id = true) : Run E fn rnd Q (.block id a) ks tm h n ↔ Run E fn rnd Q a (.block id :: ks) tm h n := by
 unfold Run; rw [iJ]; simp only [step, qF hn, dG]
 refine uI fun r h' n' => ?_
 obtain ⟨e, tm'⟩ := r
 cases e with
 | normal => simp only [dL, wp_pure]
 | ret => simp only [dL, wp_pure]
 | exit j => simp only [dL]; cases j.beq id <;> simp only [wp_pure]
theorem xI {id : Nat} {ops : Array Oper} {act : List a9 → M (fQ × List a9)} (hk : fV E.rhooks fn id (.region id ops true) = some act) (hw : Wp (act tm) h n fun r h' n' => dL E fn rnd Q ks r.1 r.2 h' n') : Run E fn rnd Q (.region id ops true) ks tm h n := by
 unfold Run; rw [iJ]; simp only [step, hk]; exact hw
theorem bZ {a : Code} : Run E fn rnd Q (.loop a) ks tm h n ↔ Run E fn rnd Q a (.loop a :: ks) tm h n := by
 unfold Run; rw [iJ]; simp only [step, dG]
 refine uI fun r h' n' => ?_
 obtain ⟨e, tm'⟩ := r
 cases e <;> simp only [dL, wp_pure]
theorem I0 {c : Operand} {a b : Code} : Run E fn rnd Q (.cond c a b) ks tm h n ↔ If E fn rnd Q (opd tm c) a b ks tm h n := by
 unfold Run If; rw [iJ]; simp only [step, dG]
 refine uI fun t h' n' => ?_
 cases t <;> rfl
theorem CD {id : Nat} {ops : Array Oper} : Run E fn rnd Q (.region id ops false) ks tm h n ↔ Ops E fn rnd Q ks ops.toList ops.toList tm h n := by
 unfold Run Ops; rw [iJ]; simp only [step, dG, wp_pure]
theorem if_true {a b : Code} : If E fn rnd Q (.bool true) a b ks tm h n ↔ Run E fn rnd Q a ks tm h n := by
 simp only [If, branch, DX]
theorem if_false {a b : Code} : If E fn rnd Q (.bool false) a b ks tm h n ↔ Run E fn rnd Q b ks tm h n := by
 simp only [If, branch, DX]
theorem JJ {a b : Code} : If E fn rnd Q (.blit true) a b ks tm h n ↔ Run E fn rnd Q a ks tm h n := by
 simp only [If, branch, wp_pure]
theorem GA {a b : Code} : If E fn rnd Q (.blit false) a b ks tm h n ↔ Run E fn rnd Q b ks tm h n := by
 simp only [If, branch, wp_pure]
theorem KL {c : Code} : dL E fn rnd Q (.seq c :: ks) .normal tm h n ↔ Run E fn rnd Q c ks tm h n := Iff.rfl
theorem zS {c : Code} : dL E fn rnd Q (.seq c :: ks) .ret tm h n ↔ dL E fn rnd Q ks .ret tm h n := Iff.rfl
theorem xC {c : Code} {j : Nat} : dL E fn rnd Q (.seq c :: ks) (.exit j) tm h n ↔ dL E fn rnd Q ks (.exit j) tm h n := Iff.rfl
theorem DG {i : Nat} : dL E fn rnd Q (.block i :: ks) .normal tm h n ↔ dL E fn rnd Q ks .normal tm h n := Iff.rfl
theorem vS {i : Nat} : dL E fn rnd Q (.block i :: ks) .ret tm h n ↔ dL E fn rnd Q ks .ret tm h n := Iff.rfl
theorem tT {i : Nat} : dL E fn rnd Q (.block i :: ks) (.exit i) tm h n ↔ dL E fn rnd Q ks .normal tm h n := by
 simp only [dL, Nat.beq_refl]
theorem GQ {c : Code} : dL E fn rnd Q (.loop c :: ks) .normal tm h n ↔ Run E fn rnd Q (.loop c) ks tm h n := Iff.rfl
theorem xD {c : Code} : dL E fn rnd Q (.loop c :: ks) .ret tm h n ↔ dL E fn rnd Q ks .ret tm h n := Iff.rfl
theorem vR {c : Code} {j : Nat} : dL E fn rnd Q (.loop c :: ks) (.exit j) tm h n ↔ dL E fn rnd Q ks (.exit j) tm h n := Iff.rfl
theorem KM {e : fQ} : dL E fn rnd Q [] e tm h n ↔ Q e tm h n := Iff.rfl
variable {ops rest : List Oper} {d : Option Tmp}
theorem MN : Ops E fn rnd Q ks ops [] tm h n ↔ dL E fn rnd Q ks .normal (forget E fn tm) h n := by
 unfold Ops; simp only [jP, wp_pure]
theorem IQ {op : Op} {ty : TypeId} {pos : String} {af : Array Edge} : Ops E fn rnd Q ks ops (⟨d, op, ty, pos, af, none⟩ :: rest) tm h n ↔ OpV E fn rnd Q ks ops rest d tm (execOp E (evalW E) tm op) h n := by
 unfold Ops OpV; simp only [jP, FZ, opV, wanted, bind_pure, dG, wp_pure]; rfl
def VF (E : Env) (fn : FuncId) (rnd : Option Nat) (Q : eB) (ks : List Kf) (ops rest : List Oper) (d : Option Tmp) (tm : List a9) (o : Op) (want : Bool) (g : Option Oper) (h : Hp) (n : Nat) : Prop :=
 match g.bind (·.dst) with
 | some g => OpG E fn rnd Q ks ops rest d tm o want (nth tm g undef) h n
 | none => Ops E fn rnd Q ks ops rest (aC tm d undef) h n
theorem FV {op : Op} {ty : TypeId} {pos : String} {af : Array Edge} {j : Nat} {want : Bool} :
  Ops E fn rnd Q ks ops (⟨d, op, ty, pos, af, some (j, want)⟩ :: rest) tm h n ↔ VF E fn rnd Q ks ops rest d tm op want ops[j]? h n := by
 unfold VF
 cases hg : (ops[j]?).bind (·.dst) with
 | none =>
  unfold Ops; simp only [jP, FZ, opV, wanted, hg, dG, wp_pure]
 | some g =>
  unfold Ops OpG; simp only [jP, FZ, opV, wanted, hg, dG, wp_pure]
  refine uI fun w h' n' => ?_
  cases w <;> simp only [wp_pure, Ops, OpV]
theorem FW {op : Op} {want : Bool} {g : Tmp} {o2 : Op} {ty : TypeId} {pos : String} {af : Array Edge} {gg : Option (Nat × Bool)} :
  VF E fn rnd Q ks ops rest d tm op want (some ⟨some g, o2, ty, pos, af, gg⟩) h n ↔ OpG E fn rnd Q ks ops rest d tm op want (nth tm g undef) h n := Iff.rfl
theorem IU {op : Op} {want t : Bool} : OpG E fn rnd Q ks ops rest d tm op want (.bool t) h n ↔ OpG E fn rnd Q ks ops rest d tm op want (.blit t) h n := by
 simp only [OpG, kC, fW, wp_pure]
theorem IS {op : Op} : OpG E fn rnd Q ks ops rest d tm op true (.blit true) h n ↔ OpV E fn rnd Q ks ops rest d tm (execOp E (evalW E) tm op) h n := by
 simp only [OpG, kC, wp_pure]; rfl
theorem QQ {op : Op} : OpG E fn rnd Q ks ops rest d tm op false (.blit false) h n ↔ OpV E fn rnd Q ks ops rest d tm (execOp E (evalW E) tm op) h n := by
 simp only [OpG, kC, wp_pure]; rfl
theorem IT {op : Op} : OpG E fn rnd Q ks ops rest d tm op true (.blit false) h n ↔ Ops E fn rnd Q ks ops rest (aC tm d undef) h n := by
 simp only [OpG, kC, wp_pure]; rfl
theorem QP {op : Op} : OpG E fn rnd Q ks ops rest d tm op false (.blit true) h n ↔ Ops E fn rnd Q ks ops rest (aC tm d undef) h n := by
 simp only [OpG, kC, wp_pure]; rfl
theorem xO {op : Op} {want : Bool} {l : List a9} : OpG E fn rnd Q ks ops rest d tm op want (.tup l) h n ↔ Ops E fn rnd Q ks ops rest (aC tm d undef) h n := by
 simp only [OpG, kC, wp_pure]
theorem iO {v : a9} : OpV E fn rnd Q ks ops rest d tm (M.pure v) h n ↔ Ops E fn rnd Q ks ops rest (aC tm d v) h n := by
 simp only [OpV, wp_pure]
theorem AM {w : String} : OpV E fn rnd Q ks ops rest d tm (fail w) h n ↔ False := by
 simp only [OpV, LY]
theorem E9 {id : Nat} {f : Blk → M a9} : OpV E fn rnd Q ks ops rest d tm ((fI id).bind f) h n ↔ ∃ b, h id = some b ∧ OpV E fn rnd Q ks ops rest d tm (f b) h n := by
 simp only [OpV, eW]
theorem MM {id : Nat} {b : Blk} {f : Unit → M a9} : OpV E fn rnd Q ks ops rest d tm ((jF id b).bind f) h n ↔ h id ≠ none ∧ OpV E fn rnd Q ks ops rest d tm (f ()) (upd h id (some b)) n := by
 simp only [OpV, kO]
theorem IN {id : Nat} {f : Unit → M a9} : OpV E fn rnd Q ks ops rest d tm ((kill id).bind f) h n ↔ h id ≠ none ∧ OpV E fn rnd Q ks ops rest d tm (f ()) (upd h id none) n := by
 simp only [OpV, yM]
theorem qU {b : Blk} {f : Nat → M a9} : OpV E fn rnd Q ks ops rest d tm ((qB b).bind f) h n ↔ OpV E fn rnd Q ks ops rest d tm (f n) (upd h n (some b)) (n + 1) := by
 simp only [OpV, gV]
theorem nR {b : Bool} {f : Unit → M a9} : OpV E fn rnd Q ks ops rest d tm ((ob b).bind f) h n ↔ b = true ∧ OpV E fn rnd Q ks ops rest d tm (f ()) h n := by
 simp only [OpV, eL]
theorem z4 {b : Bool} {f : Bool → M a9} : OpV E fn rnd Q ks ops rest d tm ((ask b).bind f) h n ↔ OpV E fn rnd Q ks ops rest d tm (f b) h n := by
 simp only [OpV, fW]
theorem IP {m : M a9} {Q1 : a9 → Hp → Nat → Prop} (hw : Wp m h n Q1) (hq : ∀ v h' n', n ≤ n' → Q1 v h' n' → Ops E fn rnd Q ks ops rest (aC tm d v) h' n') : OpV E fn rnd Q ks ops rest d tm m h n :=
 wp_mono hw.next fun a h' n' hh => hq a h' n' hh.2 hh.1
theorem dZ {m : M a9} {v : a9} {h1 : Hp} {n1 : Nat} (hw : Wp m h n fun v' h' n' => v' = v ∧ h' = h1 ∧ n' = n1) (hq : Ops E fn rnd Q ks ops rest (aC tm d v) h1 n1) : OpV E fn rnd Q ks ops rest d tm m h n :=
 LV hw hq
theorem bI {f : FuncId} {args : List a9} {i : FI} {Q : a9 → Hp → Nat → Prop} (hf : (E.funcs.find f).f.beq f = true) (hi : (E.funcs.find f).i = i)
  (hr : Run E f none (fun e tm h' n' => (match e with | .exit _ => False | _ => True) ∧ Wp (ended E tm i.results) h' n' Q) i.body [] (args ++ List.replicate (i.ntmps - args.length) undef) h n) :
  Wp (aZ E (evalW E) f args) h n Q := by
 unfold aZ
 rw [hf]
 simp only [hi, dG]
 refine wp_mono hr fun r h' n' hq => ?_
 obtain ⟨e, tm'⟩ := r
 simp only [dL] at hq
 cases e with
 | exit j => exact hq.1.elim
 | normal => exact hq.2
 | ret => exact hq.2
theorem KT {f : FuncId} {args : List a9} {xs : Array Value} {w : World} {Q : a9 → Hp → Nat → Prop} (hw : Wp (aZ E (evalW E) f args) (fun _ => none) 0 Q) (hx : RL (fun _ => none) (iD w) args xs) :
  Calls E.P f xs w fun e w' => ∃ v h n x ρ', Q v h n ∧ e = .returned x ∧ R ρ' (iD w) v x ∧ Below w.heap.size w w' := by
 obtain ⟨v, s', he, hq⟩ := eQ.1 hw
 obtain ⟨k, hk⟩ := (xZ f args).fuel he.run
 have ho : bU s' := by
  obtain ⟨o, e1, e2⟩ := he.obs
  unfold bU
  rw [e1]
  simpa [at0] using e2
 refine (O8 hk ho (fun _ => rfl) hx).mono fun e w' hh => ?_
 obtain ⟨x, ρ', h1, h2, h3⟩ := hh
 exact ⟨v, _, _, x, ρ', hq, h1, h2, h3⟩
end Go.Am
