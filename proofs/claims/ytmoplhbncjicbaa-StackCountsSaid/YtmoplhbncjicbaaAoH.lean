/- Regions that draw their order. -/
import Derived.Test.YtmoplhbncjicbaaAoG
set_option linter.unusedSimpArgs false
set_option linter.unusedVariables false
set_option linter.defProp false
namespace Go.Am
open Go Go.RowKit
variable {E : Env} {fn : FuncId} {rnd : Option Nat} {Q : Post0} {ks : List Kf} {tm : List AVal} {h : Hp} {n : Nat} {ops rest : List Oper} {d : Option Tmp}
/-- The operations of such a region, one after the other; what each looked at is kept. -/
def Fe (E : Env) (fn : FuncId) (rnd : Option Nat) (Q : Post0) (ks : List Kf) (ops : List Oper) (j : Nat) (rest : List Oper) (tm : List AVal) (fs : List Foot) (h : Hp) (n : Nat) : Prop :=
  Wp (evalFeet E (evalW E) ops j rest tm fs) h n fun r h' n' => fine (befores [] ops) r.2 = true ∧ Kont E fn rnd Q ks .normal (forget E fn r.1) h' n'
def FeV (E : Env) (fn : FuncId) (rnd : Option Nat) (Q : Post0) (ks : List Kf) (ops : List Oper) (j : Nat) (rest : List Oper) (d : Option Tmp) (tm : List AVal) (fs : List Foot) (m : M AVal) (h : Hp) (n : Nat) : Prop :=
  Wp (foot j m) h n fun r h' n' => Fe E fn rnd Q ks ops (j + 1) rest (putT tm d r.1) (r.2 :: fs) h' n'
variable {j : Nat} {fs : List Foot}
theorem run_draw {id : Nat} {ops : Array Oper} (hh : (noHook E.rhooks fn id && textFine ops.toList) = true ∧ Fe E fn rnd Q ks ops.toList 0 ops.toList tm [] h n) : Run E fn rnd Q (.region id ops true) ks tm h n := by
  obtain ⟨h1, h2⟩ := hh
  rw [Bool.and_eq_true] at h1
  unfold Fe at h2
  unfold Run; rw [wp_step]; simp only [step, chook_none h1.1, evalDraw, wp_bind_iff, wp_pure, wp_ob']
  exact ⟨h1.2, h2⟩
theorem fe_nil : Fe E fn rnd Q ks ops j [] tm fs h n ↔ fine (befores [] ops) fs = true ∧ Kont E fn rnd Q ks .normal (forget E fn tm) h n := by
  unfold Fe; simp only [evalFeet, wp_pure]
theorem foot_congr {α : Type} (j : Nat) {m m' : M α} (e : m = m') : foot j m = foot j m' := by rw [e]
theorem fe_cons {op : Op} {ty : TypeId} {pos : String} {af : Array Edge} : Fe E fn rnd Q ks ops j (⟨d, op, ty, pos, af, none⟩ :: rest) tm fs h n ↔ FeV E fn rnd Q ks ops j rest d tm fs (execOp E (evalW E) tm op) h n := by
  unfold Fe FeV; simp only [evalFeet, opV, wanted, bind_pure, wp_bind_iff]; rfl
/-- A guarded one. -/
def FeG (E : Env) (fn : FuncId) (rnd : Option Nat) (Q : Post0) (ks : List Kf) (ops : List Oper) (j : Nat) (rest : List Oper) (d : Option Tmp) (tm : List AVal) (fs : List Foot) (o : Op) (want : Bool) (v : AVal) (h : Hp) (n : Nat) : Prop :=
  FeV E fn rnd Q ks ops j rest d tm fs ((wantB want v).bind fun w => match w with | true => execOp E (evalW E) tm o | false => M.pure undef) h n
def FeGo (E : Env) (fn : FuncId) (rnd : Option Nat) (Q : Post0) (ks : List Kf) (ops : List Oper) (j : Nat) (rest : List Oper) (d : Option Tmp) (tm : List AVal) (fs : List Foot) (o : Op) (want : Bool) (g : Option Oper) (h : Hp) (n : Nat) : Prop :=
  match g.bind (·.dst) with
  | some g => FeG E fn rnd Q ks ops j rest d tm fs o want (nth tm g undef) h n
  | none => FeV E fn rnd Q ks ops j rest d tm fs (M.pure undef) h n
theorem fe_guard {op : Op} {ty : TypeId} {pos : String} {af : Array Edge} {i : Nat} {want : Bool} :
    Fe E fn rnd Q ks ops j (⟨d, op, ty, pos, af, some (i, want)⟩ :: rest) tm fs h n ↔ FeGo E fn rnd Q ks ops j rest d tm fs op want ops[i]? h n := by
  unfold FeGo
  cases hg : (ops[i]?).bind (·.dst) with
  | none => unfold Fe FeV; simp only [evalFeet, opV, wanted, hg, bind_pure, wp_bind_iff]; rfl
  | some g => unfold Fe FeG FeV; simp only [evalFeet, opV, wanted, hg, wp_bind_iff]; rfl
theorem fego_some {op : Op} {want : Bool} {g : Tmp} {o2 : Op} {ty : TypeId} {pos : String} {af : Array Edge} {gg : Option (Nat × Bool)} :
    FeGo E fn rnd Q ks ops j rest d tm fs op want (some ⟨some g, o2, ty, pos, af, gg⟩) h n ↔ FeG E fn rnd Q ks ops j rest d tm fs op want (nth tm g undef) h n := Iff.rfl
theorem foot_ask {α : Type} {b : Bool} {f : Bool → M α} {Q : α × Foot → Hp → Nat → Prop} : Wp (foot j ((ask b).bind f)) h n Q ↔ Wp (foot j (f b)) h n Q := by
  have : ∀ s : St, s.orc = none → (foot j ((ask b).bind f)).run s = (foot j (f b)).run s := by
    intro s hs
    simp only [foot, footF, M.bind, bindF, ask, askF, hs]
  rw [wp_iff, wp_iff]
  constructor
  · rintro ⟨a, s', he, hq⟩; exact ⟨a, s', ⟨by rw [← this (at0 h n) rfl]; exact he.run, he.obs, he.oc⟩, hq⟩
  · rintro ⟨a, s', he, hq⟩; exact ⟨a, s', ⟨by rw [this (at0 h n) rfl]; exact he.run, he.obs, he.oc⟩, hq⟩
theorem feg_bool {op : Op} {want t : Bool} : FeG E fn rnd Q ks ops j rest d tm fs op want (.bool t) h n ↔ FeG E fn rnd Q ks ops j rest d tm fs op want (.blit t) h n := by
  simp only [FeG, wantB, FeV, bind_assoc, foot_ask, bind_pure]
theorem feg_tt {op : Op} : FeG E fn rnd Q ks ops j rest d tm fs op true (.blit true) h n ↔ FeV E fn rnd Q ks ops j rest d tm fs (execOp E (evalW E) tm op) h n := by
  simp only [FeG, wantB, bind_pure]; rfl
theorem feg_ff {op : Op} : FeG E fn rnd Q ks ops j rest d tm fs op false (.blit false) h n ↔ FeV E fn rnd Q ks ops j rest d tm fs (execOp E (evalW E) tm op) h n := by
  simp only [FeG, wantB, bind_pure]; rfl
theorem feg_tf {op : Op} : FeG E fn rnd Q ks ops j rest d tm fs op true (.blit false) h n ↔ FeV E fn rnd Q ks ops j rest d tm fs (M.pure undef) h n := by
  simp only [FeG, wantB, bind_pure]; rfl
theorem feg_ft {op : Op} : FeG E fn rnd Q ks ops j rest d tm fs op false (.blit true) h n ↔ FeV E fn rnd Q ks ops j rest d tm fs (M.pure undef) h n := by
  simp only [FeG, wantB, bind_pure]; rfl
theorem feg_un {op : Op} {want : Bool} : FeG E fn rnd Q ks ops j rest d tm fs op want undef h n ↔ FeV E fn rnd Q ks ops j rest d tm fs (M.pure undef) h n := by
  simp only [FeG, wantB, undef, bind_pure]
theorem fev_ask {b : Bool} {f : Bool → M AVal} : FeV E fn rnd Q ks ops j rest d tm fs ((ask b).bind f) h n ↔ FeV E fn rnd Q ks ops j rest d tm fs (f b) h n := by
  simp only [FeV, foot_ask]
theorem foot_pure {α : Type} {a : α} {Q : α × Foot → Hp → Nat → Prop} : Wp (foot j (M.pure a)) h n Q ↔ Q (a, ⟨j, [], [], n, n⟩) h n := by
  rw [wp_iff]
  constructor
  · rintro ⟨r, s', he, hq⟩
    have h0 := he.run
    simp only [foot, footF, M.pure, at0, List.filter_nil, List.append_nil] at h0
    injection h0 with h1 h2
    subst h1; subst h2
    exact hq
  · intro hq
    exact ⟨_, _, ⟨rfl, ⟨[], rfl, rfl⟩, rfl⟩, hq⟩
theorem fev_pure {v : AVal} : FeV E fn rnd Q ks ops j rest d tm fs (M.pure v) h n ↔ Fe E fn rnd Q ks ops (j + 1) rest (putT tm d v) (⟨j, [], [], n, n⟩ :: fs) h n := by
  simp only [FeV, foot_pure]
theorem fev_fail {w : String} : FeV E fn rnd Q ks ops j rest d tm fs (fail w) h n ↔ False := by
  unfold FeV
  rw [wp_iff]
  refine ⟨?_, False.elim⟩
  rintro ⟨a, s', he, _⟩
  cases he.run
/-- Actions that only look: at which blocks, and what they answer. -/
structure Rd {α : Type} (m : M α) (h : Hp) (n : Nat) (ids : List Nat) (v : α) : Prop where
  r : ∀ s, At s h n → ∃ s' o, m.run s = .ok v s' ∧ s'.heap.get = s.heap.get ∧ s'.next = s.next ∧ s'.orc = none ∧ s'.rds = ids ++ s.rds ∧ s'.wrs = s.wrs ∧ s'.obs = o ++ s.obs ∧ o.all id = true
theorem Rd.pure {α : Type} (v : α) : Rd (M.pure v) h n [] v := ⟨fun s hs => ⟨s, [], rfl, rfl, rfl, hs.oc, rfl, rfl, rfl, rfl⟩⟩
theorem Rd.bind {α β : Type} {m : M α} {f : α → M β} {i1 i2 : List Nat} {a : α} {b : β} (h1 : Rd m h n i1 a) (h2 : Rd (f a) h n i2 b) : Rd (m.bind f) h n (i2 ++ i1) b := by
  refine ⟨fun s hs => ?_⟩
  obtain ⟨s1, o1, e1, a1, b1, c1, d1, w1, g1, q1⟩ := h1.r s hs
  obtain ⟨s2, o2, e2, a2, b2, c2, d2, w2, g2, q2⟩ := h2.r s1 ⟨by rw [a1, hs.hp], by rw [b1, hs.nx], c1⟩
  exact ⟨s2, o2 ++ o1, by simp only [M.bind, bindF, e1, e2], by rw [a2, a1], by rw [b2, b1], c2, by rw [d2, d1, List.append_assoc], by rw [w2, w1], by rw [g2, g1, List.append_assoc], by rw [List.all_append, q1, q2]; rfl⟩
theorem Rd.get {id : Nat} {b : Blk} (hg : h id = some b) : Rd (getB id) h n [id] b := by
  refine ⟨fun s hs => ⟨{ s with rds := id :: s.rds }, [], ?_, rfl, rfl, hs.oc, rfl, rfl, rfl, rfl⟩⟩
  have : s.heap.get id = some b := by rw [hs.hp]; exact hg
  simp only [getB, getF, this]
theorem Rd.ob {b : Bool} (hb : b = true) : Rd (ob b) h n [] () := by
  subst hb
  exact ⟨fun s hs => ⟨s, [], rfl, rfl, rfl, hs.oc, rfl, rfl, rfl, rfl⟩⟩
theorem Rd.ask (b : Bool) : Rd (ask b) h n [] b := ⟨fun s hs => ⟨s, [], by simp only [Go.Am.ask, askF, hs.oc], rfl, rfl, hs.oc, rfl, rfl, rfl, rfl⟩⟩
theorem Rd.wp {α : Type} {m : M α} {ids : List Nat} {v : α} (hr : Rd m h n ids v) : Wp m h n fun a h' n' => a = v ∧ h' = h ∧ n' = n := by
  obtain ⟨s', o, e, a, b, c, d, w, g, q⟩ := hr.r _ (at0_at h n)
  exact wp_iff.2 ⟨v, s', ⟨e, ⟨o, g, q⟩, c⟩, rfl, by rw [a]; rfl, by rw [b]; rfl⟩
theorem fev_rd {m : M AVal} {ids : List Nat} {v : AVal} (hr : Rd m h n ids v) :
    FeV E fn rnd Q ks ops j rest d tm fs m h n ↔ Fe E fn rnd Q ks ops (j + 1) rest (putT tm d v) (⟨j, ids, [], n, n⟩ :: fs) h n := by
  unfold FeV
  obtain ⟨s', o, e, a, b, c, dd, w, g, q⟩ := hr.r (at0 h n) (at0_at h n)
  have hold : ids.filter (old n n) = ids := by
    rw [List.filter_eq_self]
    intro id _
    unfold old
    by_cases hc : id < n
    · rw [show id.blt n = true from Nat.ble_eq_true_of_le hc]; rfl
    · rw [show n.ble id = true from Nat.ble_eq_true_of_le (by omega)]; simp
  have hf : (foot j m).run (at0 h n) = .ok (v, ⟨j, ids, [], n, n⟩) { s' with rds := s'.rds ++ (at0 h n).rds, wrs := s'.wrs ++ (at0 h n).wrs } := by
    have e' : m.run { at0 h n with rds := [], wrs := [] } = .ok v s' := e
    simp only [foot, footF, e', dd, w, b]
    simp only [at0, List.append_nil, hold, List.filter_nil]
  rw [wp_iff]
  constructor
  · rintro ⟨r, s2, he, hq⟩
    have h0 := he.run
    rw [hf] at h0
    injection h0 with h1 h2
    subst h1; subst h2
    rw [a, b] at hq
    exact hq
  · intro hq
    refine ⟨_, _, ⟨hf, ⟨o, g, q⟩, c⟩, ?_⟩
    rw [a, b]; exact hq
/-- No block stands beyond those that were made. -/
def Free (h : Hp) (n : Nat) : Prop := ∀ id, n ≤ id → h id = none
theorem Free.none : Free (fun _ => none) n := fun _ _ => rfl
theorem Free.new {b : Option Blk} (hf : Free h n) : Free (upd h n b) (n + 1) := fun id hi => by rw [upd_ne _ _ (by omega)]; exact hf id (by omega)
theorem Free.upd {b : Option Blk} {i : Nat} (hf : Free h n) (hi : i < n) : Free (upd h i b) n := fun id hid => by rw [upd_ne _ _ (by omega)]; exact hf id hid
theorem Wp.free {α : Type} {m : M α} {Q : α → Hp → Nat → Prop} (hw : Wp m h n Q) (hf : Free h n) : Wp m h n fun a h' n' => Q a h' n' ∧ n ≤ n' ∧ Free h' n' := by
  obtain ⟨s, a, s', hs, he, hq⟩ := hw
  obtain ⟨r, w, o, d⟩ := m.loc _ _ _ he.run
  have hsf : ∀ id, n ≤ id → s.heap.get id = none := fun id hi => by rw [hs.hp]; exact hf id hi
  have hn : n ≤ s'.next := by rw [← hs.nx]; exact d.next
  refine ⟨s, a, s', hs, he, hq, hn, fun id hi => ?_⟩
  have hnn : ¬ New s s' id := fun hh => by have := hh.2; omega
  rw [d.rest id (fun hw => by
    rcases d.live id hw with hh | hh
    · exact hh (hsf id (by omega))
    · exact hnn hh) hnn]
  exact hsf id (by omega)
theorem opv_callf {m : M AVal} {Q1 : AVal → Hp → Nat → Prop} (hf : Free h n) (hw : Wp m h n Q1) (hq : ∀ v h' n', n ≤ n' → Free h' n' → Q1 v h' n' → Ops E fn rnd Q ks ops rest (putT tm d v) h' n') : OpV E fn rnd Q ks ops rest d tm m h n :=
  wp_mono (hw.free hf) fun a h' n' hh => hq a h' n' hh.2.1 hh.2.2 hh.1
/-- A call that needs nothing of what is there: it looks at nothing of it. -/
theorem fev_free {m : M AVal} {Q0 Q1 : AVal → Hp → Nat → Prop} (hf : Free h n) (hw0 : Wp m (fun _ => none) n Q0) (hw : Wp m h n Q1)
    (hq : ∀ v h' n', n ≤ n' → Free h' n' → Q1 v h' n' → Fe E fn rnd Q ks ops (j + 1) rest (putT tm d v) (⟨j, [], [], n, n'⟩ :: fs) h' n') : FeV E fn rnd Q ks ops j rest d tm fs m h n := by
  unfold FeV
  obtain ⟨v0, s0, he0, _⟩ := wp_iff.1 hw0
  obtain ⟨v, s', he, hq1, hn1, hf1⟩ := wp_iff.1 (hw.free hf)
  obtain ⟨r, w, o, dd⟩ := m.loc _ _ _ he0.run
  have hrn : ∀ id, id ∈ r → New (at0 (fun _ => none) n) s0 id := fun id hid => by
    rcases dd.rlive id hid with hh | hh
    · exact absurd rfl hh
    · exact hh
  have hwn : ∀ id, id ∈ w → New (at0 (fun _ => none) n) s0 id := fun id hid => by
    rcases dd.live id hid with hh | hh
    · exact absurd rfl hh
    · exact hh
  obtain ⟨t', e, g1, g2, g3, g4, g5, g6, g7⟩ := dd.again (at0 h n) rfl rfl (fun id hid => by
    have : New (at0 (fun _ => none) n) s0 id := by
      rcases hid with hid | hid | hid
      · exact hrn id hid
      · exact hwn id hid
      · exact hid
    exact hf id this.1)
  rw [he.run] at e
  injection e with e1 e2
  subst e1; subst e2
  have old0 : ∀ l : List Nat, (∀ id, id ∈ l → New (at0 (fun _ => none) n) s0 id) → l.filter (old n s'.next) = [] := by
    intro l hl
    rw [List.filter_eq_nil_iff]
    intro id hid
    have := hl id hid
    unfold old
    have h1 : id.blt n = false := by
      cases hc : id.blt n with
      | false => rfl
      | true => have h2 := Nat.le_of_ble_eq_true hc; have h3 : n ≤ id := this.1; omega
    have h2 : s'.next.ble id = false := by
      cases hc : s'.next.ble id with
      | false => rfl
      | true => have h2 := Nat.le_of_ble_eq_true hc; have h3 := this.2; rw [g1] at h2; omega
    rw [h1, h2]; simp
  have hfoot : (foot j m).run (at0 h n) = .ok (v, ⟨j, [], [], n, s'.next⟩) { s' with rds := s'.rds ++ (at0 h n).rds, wrs := s'.wrs ++ (at0 h n).wrs } := by
    have e' : m.run { at0 h n with rds := [], wrs := [] } = .ok v s' := he.run
    simp only [foot, footF, e']
    rw [g3, g4]
    have q1 := old0 r hrn
    have q2 := old0 w hwn
    simp only [at0, List.append_nil, q1, q2]
  refine wp_iff.2 ⟨_, _, ⟨hfoot, he.obs, he.oc⟩, ?_⟩
  exact hq v _ _ hn1 hf1 hq1
/-- A call, whatever it looks at. -/
theorem fev_any {m : M AVal} {Q1 : AVal → Hp → Nat → Prop} (hf : Free h n) (hw : Wp m h n Q1)
    (hq : ∀ v h' n' r w, n ≤ n' → Free h' n' → Q1 v h' n' → Fe E fn rnd Q ks ops (j + 1) rest (putT tm d v) (⟨j, r, w, n, n'⟩ :: fs) h' n') : FeV E fn rnd Q ks ops j rest d tm fs m h n := by
  unfold FeV
  obtain ⟨v, s', he, hq1, hn1, hf1⟩ := wp_iff.1 (hw.free hf)
  have e' : m.run { at0 h n with rds := [], wrs := [] } = .ok v s' := he.run
  have hfoot : (foot j m).run (at0 h n) = .ok (v, ⟨j, s'.rds.filter (old n s'.next), s'.wrs.filter (old n s'.next), n, s'.next⟩) { s' with rds := s'.rds ++ (at0 h n).rds, wrs := s'.wrs ++ (at0 h n).wrs } := by
    simp only [foot, footF, e']; rfl
  refine wp_iff.2 ⟨_, _, ⟨hfoot, he.obs, he.oc⟩, ?_⟩
  exact hq v _ _ _ _ hn1 hf1 hq1
theorem Bytes.str_rd {v : AVal} {l : List UInt8} (hb : Bytes h v l) {t t2 e : TypeId} (ht : und E t = M.pure (.slice e)) (h2 : und E t2 = M.pure .string) (he : und E e = M.pure (.int .u8)) :
    Rd (convert E t t2 v) h n (ownId v).toList (.str l) := by
  have key : convert E t t2 v = convStr E e v := by
    cases hb <;> simp only [convert, ht, h2, bind_pure]
  rw [key]
  have cells : Rd (sliceCells 1 l.length v) h n (ownId v).toList (l.map u8) := by
    cases hb with
    | nils => exact Rd.bind (m := ob (Nat.beq 0 0)) (f := fun _ => M.pure []) (Rd.ob rfl) (Rd.pure _)
    | isl g off l hf =>
      have := cellsOf_eq g l.length off (l.map u8) (by simp) (fun j hj => by rw [hf j (by simpa using hj)]; simp)
      simp only [sliceCells, sameSz, Nat.beq_refl, Nat.mul_one, this]
      exact Rd.bind (i2 := []) (Rd.ob (Nat.ble_self_eq_true _)) (Rd.pure _)
    | sl id off cap c e l hh hs hc =>
      have := Cont.sub_eq (c := c) (off := off) (l := l.map u8) (by simpa using hs) (fun j hj => by rw [hc j (by simpa using hj)]; simp)
      simp only [List.length_map] at this
      simp only [sliceCells, sameSz, Nat.beq_refl, Nat.mul_one]
      refine Rd.bind (i2 := []) (Rd.get hh) ?_
      simp only [rowK]
      refine Rd.bind (i2 := []) (Rd.ob (Nat.ble_self_eq_true _)) (Rd.bind (i2 := []) (Rd.ob (ble_of hs)) ?_)
      rw [this]; exact Rd.pure _
  simp only [convStr, he, bind_pure, isU8, hb.len]
  refine Rd.bind (i2 := []) cells (Rd.bind (i2 := []) (Rd.ob (allByte l)) ?_)
  rw [toByte_u8]; exact Rd.pure _
theorem hits_nil (f : Foot) : hits [] f = false := by unfold hits; cases f.lo.beq f.hi <;> rfl
theorem hits_low {x : List Nat} {f : Foot} (hx : ∀ id, id ∈ x → id < f.lo) : hits x f = false := by
  unfold hits
  cases f.lo.beq f.hi with
  | true => rfl
  | false =>
    simp only [List.any_eq_false]
    intro id hid
    unfold within
    have := hx id hid
    have h1 : f.lo.ble id = false := blit_of (by omega)
    rw [h1]; simp
theorem hits_same (x : List Nat) (j n : Nat) (r w : List Nat) : hits x ⟨j, r, w, n, n⟩ = false := by unfold hits; simp
theorem meets_nil (x : List Nat) : meets [] x = false := rfl
theorem meets_nil' (x : List Nat) : meets x [] = false := by unfold meets; simp
end Go.Am
