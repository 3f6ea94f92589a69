/- What an action needs, so that it ends, owes nothing, and leaves what is wanted: over heaps as functions. -/
import Derived.Test.YtmoplhbncjicbaaAoA
set_option linter.unusedSimpArgs false
set_option linter.unusedVariables false
namespace Go.Am
open Go

abbrev Hp := Nat → Option Blk
def upd (h : Hp) (i : Nat) (b : Option Blk) : Hp := fun j => if j = i then b else h j
theorem upd_same (h : Hp) (i : Nat) (b : Option Blk) : upd h i b i = b := by simp [upd]
theorem upd_ne (h : Hp) {i j : Nat} (b : Option Blk) (hn : j ≠ i) : upd h i b j = h j := by simp [upd, hn]
theorem upd_upd (h : Hp) (i : Nat) (a b : Option Blk) : upd (upd h i a) i b = upd h i b := by
  funext j; simp only [upd]; split <;> rfl
structure At (s : St) (h : Hp) (n : Nat) : Prop where
  hp : s.heap.get = h
  nx : s.next = n
  oc : s.orc = none
/-- A run that ends well. -/
structure Ends {α : Type} (m : M α) (s : St) (a : α) (s' : St) : Prop where
  run : m.run s = .ok a s'
  obs : ∃ o, s'.obs = o ++ s.obs ∧ o.all id = true
  oc : s'.orc = none
def at0 (h : Hp) (n : Nat) : St := { heap := .fn h, next := n, rds := [], wrs := [], obs := [], orc := none }
theorem at0_at (h : Hp) (n : Nat) : At (at0 h n) h n := ⟨rfl, rfl, rfl⟩
def Wp {α : Type} (m : M α) (h : Hp) (n : Nat) (Q : α → Hp → Nat → Prop) : Prop :=
  ∃ s a s', At s h n ∧ Ends m s a s' ∧ Q a s'.heap.get s'.next
theorem wp_at {α : Type} {m : M α} {h : Hp} {n : Nat} {Q : α → Hp → Nat → Prop} (hw : Wp m h n Q) {t : St} (ht : At t h n) : ∃ a t', Ends m t a t' ∧ Q a t'.heap.get t'.next := by
  obtain ⟨s, a, s', hs, he, hq⟩ := hw
  obtain ⟨r, w, o, d⟩ := m.loc _ _ _ he.run
  have hh : t.heap.get = s.heap.get := by rw [ht.hp, hs.hp]
  obtain ⟨t', e, hn, ho, hr, hw, hob, hg, hk⟩ := d.again t (by rw [ht.nx, hs.nx]) (by rw [ht.oc, hs.oc]) (fun id _ => by rw [hh])
  have hget : t'.heap.get = s'.heap.get := by
    funext id
    by_cases hc : id ∈ w ∨ New s s' id
    · exact hg id hc
    · simp only [not_or] at hc
      rw [hk id hc.1 hc.2, hh, d.rest id hc.1 hc.2]
  refine ⟨a, t', ⟨e, ⟨o, hob, ?_⟩, by rw [ho, he.oc]⟩, by rw [hget, hn]; exact hq⟩
  obtain ⟨o2, h1, h2⟩ := he.obs
  rw [d.obs] at h1
  rw [List.append_cancel_right h1]
  exact h2
theorem wp_iff {α : Type} {m : M α} {h : Hp} {n : Nat} {Q : α → Hp → Nat → Prop} : Wp m h n Q ↔ ∃ a s', Ends m (at0 h n) a s' ∧ Q a s'.heap.get s'.next :=
  ⟨fun hw => wp_at hw (at0_at h n), fun ⟨a, s', he, hq⟩ => ⟨_, a, s', at0_at h n, he, hq⟩⟩
theorem Ends.trans {α β : Type} {m : M α} {f : α → M β} {s s1 s2 : St} {a : α} {b : β} (h1 : Ends m s a s1) (h2 : Ends (f a) s1 b s2) : Ends (m.bind f) s b s2 := by
  refine ⟨by simp only [M.bind, bindF, h1.run, h2.run], ?_, h2.oc⟩
  obtain ⟨o1, e1, q1⟩ := h1.obs
  obtain ⟨o2, e2, q2⟩ := h2.obs
  exact ⟨o2 ++ o1, by rw [e2, e1, List.append_assoc], by rw [List.all_append, q1, q2]; rfl⟩
theorem M.ext' {α : Type} {m m' : M α} (h : ∀ s, m.run s = m'.run s) : m = m' := by
  cases m with | mk r l => cases m' with | mk r' l' =>
    have : r = r' := funext h
    subst this; rfl
theorem bind_pure {α β : Type} (a : α) (f : α → M β) : (M.pure a).bind f = f a := M.ext' fun s => rfl
theorem bind_fail {α β : Type} (w : String) (f : α → M β) : (fail w : M α).bind f = fail w := M.ext' fun s => rfl
theorem bind_assoc {α β γ : Type} (m : M α) (f : α → M β) (g : β → M γ) : (m.bind f).bind g = m.bind fun a => (f a).bind g := M.ext' fun s => by
  simp only [M.bind, bindF]
  cases m.run s <;> rfl
/-- Where no oracle is, none comes, and what was owed is told of ahead: every action's parts end well if it does. -/
theorem wp_mono {α : Type} {m : M α} {h : Hp} {n : Nat} {Q Q' : α → Hp → Nat → Prop} (hw : Wp m h n Q) (hq : ∀ a h' n', Q a h' n' → Q' a h' n') : Wp m h n Q' := by
  obtain ⟨s, a, s', hs, he, hh⟩ := hw
  exact ⟨s, a, s', hs, he, hq _ _ _ hh⟩
theorem wp_bind {α β : Type} {m : M α} {f : α → M β} {h : Hp} {n : Nat} {Q : β → Hp → Nat → Prop} (hw : Wp m h n (fun a h' n' => Wp (f a) h' n' Q)) : Wp (m.bind f) h n Q := by
  obtain ⟨s, a, s1, hs, he, hq⟩ := hw
  obtain ⟨b, s2, he2, hq2⟩ := wp_at hq ⟨rfl, rfl, he.oc⟩
  exact ⟨s, b, s2, hs, he.trans he2, hq2⟩
theorem wp_pure {α : Type} {a : α} {h : Hp} {n : Nat} {Q : α → Hp → Nat → Prop} : Wp (M.pure a) h n Q ↔ Q a h n := by
  rw [wp_iff]
  constructor
  · rintro ⟨a', s', he, hq⟩
    have h0 := he.run
    simp only [M.pure] at h0
    injection h0 with h1 h2
    subst h1; subst h2
    exact hq
  · intro hq
    exact ⟨a, at0 h n, ⟨rfl, ⟨[], rfl, rfl⟩, rfl⟩, hq⟩
theorem wp_fail {α : Type} {w : String} {h : Hp} {n : Nat} {Q : α → Hp → Nat → Prop} : Wp (fail w) h n Q ↔ False := by
  rw [wp_iff]
  refine ⟨?_, False.elim⟩
  rintro ⟨a', s', he, hq⟩
  cases he.run
theorem Ends.obs_split {α β : Type} {m : M α} {f : α → M β} {s s1 s2 : St} {a : α} {b : β} (h1 : m.run s = .ok a s1) (h2 : (f a).run s1 = .ok b s2) (h : ∃ o, s2.obs = o ++ s.obs ∧ o.all id = true) :
    (∃ o, s1.obs = o ++ s.obs ∧ o.all id = true) ∧ ∃ o, s2.obs = o ++ s1.obs ∧ o.all id = true := by
  obtain ⟨_, _, o1, d1⟩ := m.loc _ _ _ h1
  obtain ⟨_, _, o2, d2⟩ := (f a).loc _ _ _ h2
  obtain ⟨o, e, q⟩ := h
  have : o = o2 ++ o1 := by
    have e2 := d2.obs
    rw [d1.obs, ← List.append_assoc, e] at e2
    exact List.append_cancel_right e2
  subst this
  rw [List.all_append, Bool.and_eq_true] at q
  exact ⟨⟨o1, d1.obs, q.2⟩, ⟨o2, d2.obs, q.1⟩⟩
/-- What begins with an action that goes on from a state alike. -/
theorem wp_head {α β : Type} {m : M α} {f : α → M β} {h h1 : Hp} {n n1 : Nat} {Q : β → Hp → Nat → Prop} {a : α} {s1 : St} (hr : m.run (at0 h n) = .ok a s1) (h1e : s1.heap.get = h1) (hn1 : s1.next = n1) (ho : s1.orc = none) :
    Wp (m.bind f) h n Q ↔ s1.obs.all id = true ∧ Wp (f a) h1 n1 Q := by
  constructor
  · intro hw
    obtain ⟨b, s2, he, hq⟩ := wp_iff.1 hw
    obtain ⟨a', s1', e1, e2⟩ := M.bind_ok he.run
    rw [hr] at e1
    injection e1 with q1 q2
    subst q1; subst q2
    obtain ⟨⟨o, k1, k2⟩, hob2⟩ := Ends.obs_split hr e2 he.obs
    refine ⟨?_, s1, b, s2, ⟨h1e, hn1, ho⟩, ⟨e2, hob2, he.oc⟩, hq⟩
    rw [k1]
    simpa [at0] using k2
  · rintro ⟨hob, hw⟩
    obtain ⟨b, s2, he, hq⟩ := wp_at hw ⟨h1e, hn1, ho⟩
    exact ⟨at0 h n, b, s2, at0_at h n, (Ends.trans (m := m) (f := f) ⟨hr, ⟨s1.obs, by simp [at0], hob⟩, ho⟩ he), hq⟩
theorem wp_bind_iff {α β : Type} {m : M α} {f : α → M β} {h : Hp} {n : Nat} {Q : β → Hp → Nat → Prop} : Wp (m.bind f) h n Q ↔ Wp m h n fun a h' n' => Wp (f a) h' n' Q := by
  refine ⟨fun hw => ?_, wp_bind⟩
  obtain ⟨b, s2, he, hq⟩ := wp_iff.1 hw
  obtain ⟨a, s1, e1, e2⟩ := M.bind_ok he.run
  obtain ⟨hob1, hob2⟩ := Ends.obs_split e1 e2 he.obs
  obtain ⟨_, _, _, d⟩ := m.loc _ _ _ e1
  have ho := d.orc rfl
  exact ⟨_, a, s1, at0_at h n, ⟨e1, hob1, ho⟩, s1, b, s2, ⟨rfl, rfl, ho⟩, ⟨e2, hob2, he.oc⟩, hq⟩
theorem wp_get {α : Type} {id : Nat} {f : Blk → M α} {h : Hp} {n : Nat} {Q : α → Hp → Nat → Prop} : Wp ((getB id).bind f) h n Q ↔ ∃ b, h id = some b ∧ Wp (f b) h n Q := by
  cases hg : h id with
  | none =>
    refine ⟨fun hw => ?_, fun ⟨b, e, _⟩ => by cases e⟩
    obtain ⟨b, s2, he, hq⟩ := wp_iff.1 hw
    obtain ⟨a', s1', e1, e2⟩ := M.bind_ok he.run
    simp only [getB, getF, at0, Tr.get, hg] at e1
    cases e1
  | some b =>
    have hr : (getB id).run (at0 h n) = .ok b { at0 h n with rds := id :: (at0 h n).rds } := by simp only [getB, getF, at0, Tr.get, hg]
    rw [wp_head hr rfl rfl rfl]
    constructor
    · intro ⟨_, hw⟩; exact ⟨b, rfl, hw⟩
    · rintro ⟨b', e, hw⟩
      injection e with e
      subst e
      exact ⟨rfl, hw⟩
theorem wp_setF {α : Type} {id : Nat} {b : Option Blk} {f : Unit → M α} {h : Hp} {n : Nat} {Q : α → Hp → Nat → Prop} : Wp ((⟨setF id b, loc_set id b⟩ : M Unit).bind f) h n Q ↔ h id ≠ none ∧ Wp (f ()) (upd h id b) n Q := by
  cases hg : h id with
  | none =>
    refine ⟨fun hw => ?_, fun ⟨e, _⟩ => absurd rfl e⟩
    obtain ⟨c, s2, he, hq⟩ := wp_iff.1 hw
    obtain ⟨a', s1', e1, e2⟩ := M.bind_ok he.run
    simp only [setF, at0, Tr.get, hg] at e1
    cases e1
  | some b0 =>
    have hr : (⟨setF id b, loc_set id b⟩ : M Unit).run (at0 h n) = .ok () { at0 h n with heap := (at0 h n).heap.put id b, wrs := id :: (at0 h n).wrs } := by simp only [setF, at0, Tr.get, hg]
    rw [wp_head hr (h1 := upd h id b) (n1 := n) (funext fun j => by rw [Tr.get_put]; rfl) rfl rfl]
    constructor
    · intro ⟨_, hw⟩; exact ⟨by simp, hw⟩
    · rintro ⟨_, hw⟩
      exact ⟨rfl, hw⟩
theorem wp_set {α : Type} {id : Nat} {b : Blk} {f : Unit → M α} {h : Hp} {n : Nat} {Q : α → Hp → Nat → Prop} : Wp ((setB id b).bind f) h n Q ↔ h id ≠ none ∧ Wp (f ()) (upd h id (some b)) n Q := wp_setF
theorem wp_kill {α : Type} {id : Nat} {f : Unit → M α} {h : Hp} {n : Nat} {Q : α → Hp → Nat → Prop} : Wp ((kill id).bind f) h n Q ↔ h id ≠ none ∧ Wp (f ()) (upd h id none) n Q := wp_setF
theorem wp_new {α : Type} {b : Blk} {f : Nat → M α} {h : Hp} {n : Nat} {Q : α → Hp → Nat → Prop} : Wp ((newB b).bind f) h n Q ↔ Wp (f n) (upd h n (some b)) (n + 1) Q := by
  have hr : (newB b).run (at0 h n) = .ok n { at0 h n with heap := (at0 h n).heap.put n (some b), next := n + 1 } := rfl
  rw [wp_head hr (h1 := upd h n (some b)) (n1 := n + 1) (funext fun j => by rw [Tr.get_put]; rfl) rfl rfl]
  exact ⟨fun h => h.2, fun h => ⟨rfl, h⟩⟩
theorem wp_ob {α : Type} {b : Bool} {f : Unit → M α} {h : Hp} {n : Nat} {Q : α → Hp → Nat → Prop} : Wp ((ob b).bind f) h n Q ↔ b = true ∧ Wp (f ()) h n Q := by
  cases b with
  | true =>
    have hr : (ob true).run (at0 h n) = .ok () (at0 h n) := rfl
    rw [wp_head hr (h1 := h) (n1 := n) rfl rfl rfl]
    simp [at0]
  | false =>
    have hr : (ob false).run (at0 h n) = .ok () { at0 h n with obs := false :: (at0 h n).obs } := rfl
    rw [wp_head hr (h1 := h) (n1 := n) rfl rfl rfl]
    simp [at0]
theorem wp_ask {α : Type} {b : Bool} {f : Bool → M α} {h : Hp} {n : Nat} {Q : α → Hp → Nat → Prop} : Wp ((ask b).bind f) h n Q ↔ Wp (f b) h n Q := by
  have hr : (ask b).run (at0 h n) = .ok b (at0 h n) := rfl
  rw [wp_head hr (h1 := h) (n1 := n) rfl rfl rfl]
  exact ⟨fun h => h.2, fun h => ⟨rfl, h⟩⟩
theorem bind_unit {α : Type} (m : M α) : m.bind M.pure = m := M.ext' fun s => by
  simp only [M.bind, bindF, M.pure]
  cases m.run s <;> rfl
theorem wp_get' {id : Nat} {h : Hp} {n : Nat} {Q : Blk → Hp → Nat → Prop} : Wp (getB id) h n Q ↔ ∃ b, h id = some b ∧ Q b h n := by
  rw [← bind_unit (getB id), wp_get]; simp only [wp_pure]
theorem wp_set' {id : Nat} {b : Blk} {h : Hp} {n : Nat} {Q : Unit → Hp → Nat → Prop} : Wp (setB id b) h n Q ↔ h id ≠ none ∧ Q () (upd h id (some b)) n := by
  rw [← bind_unit (setB id b), wp_set]; simp only [wp_pure]
theorem wp_new' {b : Blk} {h : Hp} {n : Nat} {Q : Nat → Hp → Nat → Prop} : Wp (newB b) h n Q ↔ Q n (upd h n (some b)) (n + 1) := by
  rw [← bind_unit (newB b), wp_new]; simp only [wp_pure]
theorem wp_ob' {b : Bool} {h : Hp} {n : Nat} {Q : Unit → Hp → Nat → Prop} : Wp (ob b) h n Q ↔ b = true ∧ Q () h n := by
  rw [← bind_unit (ob b), wp_ob]; simp only [wp_pure]
theorem wp_ask' {b : Bool} {h : Hp} {n : Nat} {Q : Bool → Hp → Nat → Prop} : Wp (ask b) h n Q ↔ Q b h n := by
  rw [← bind_unit (ask b), wp_ask]; simp only [wp_pure]
/-- A call whose answer is known: nothing else comes of it. -/
theorem wp_same {α : Type} {m : M α} {h h1 : Hp} {n n1 : Nat} {a : α} (hw : Wp m h n fun a' h' n' => a' = a ∧ h' = h1 ∧ n' = n1) {Q : α → Hp → Nat → Prop} (hq : Q a h1 n1) : Wp m h n Q :=
  wp_mono hw fun _ _ _ ⟨e1, e2, e3⟩ => by subst e1; subst e2; subst e3; exact hq
theorem Wp.next {α : Type} {m : M α} {h : Hp} {n : Nat} {Q : α → Hp → Nat → Prop} (hw : Wp m h n Q) : Wp m h n fun a h' n' => Q a h' n' ∧ n ≤ n' := by
  obtain ⟨s, a, s', hs, he, hq⟩ := hw
  obtain ⟨_, _, _, d⟩ := m.loc _ _ _ he.run
  exact ⟨s, a, s', hs, he, hq, by rw [← hs.nx]; exact d.next⟩
#print axioms wp_new
end Go.Am
