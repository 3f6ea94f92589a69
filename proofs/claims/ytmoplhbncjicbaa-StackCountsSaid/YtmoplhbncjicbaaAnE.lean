/- Regions that draw their order: the abstract machine does what the model does, in whatever order. -/
import Derived.Test.YtmoplhbncjicbaaAnD
set_option linter.unusedSimpArgs false
set_option linter.unusedVariables false
namespace Go.Am
open Go

variable {E : Env}
/-- What one operation did, in the order of the text. -/
structure Ev where
  s : St
  v : AVal
  s' : St
  r : List Nat
  w : List Nat
  o : List Bool
/-- The operations of a region, in the order of the text: heaps, names, temporaries, and what each did. -/
structure Tra (E : Env) (rec : Rec) (ops : List Oper) (j : Nat) (l : List Oper) (tm : List AVal) (s : St) (tm' : List AVal) (s' : St) (F : List Foot) (ev : Nat → Ev) (hp : Nat → Tr) (nx : Nat → Nat) (tv : Nat → List AVal) : Prop where
  h0 : hp 0 = s.heap
  hN : hp l.length = s'.heap
  n0 : nx 0 = s.next
  nN : nx l.length = s'.next
  t0 : tv 0 = tm
  tN : tv l.length = tm'
  foot : F.length = l.length
  heap : ∀ k, k < l.length → (ev k).s.heap = hp k ∧ (ev k).s'.heap = hp (k + 1)
  next : ∀ k, k < l.length → (ev k).s.next = nx k ∧ (ev k).s'.next = nx (k + 1)
  tmps : ∀ k o, l[k]? = some o → tv (k + 1) = putT (tv k) o.dst (ev k).v
  did : ∀ k o, l[k]? = some o → (opV E rec ops o (tv k)).run (ev k).s = .ok (ev k).v (ev k).s' ∧ Did (opV E rec ops o (tv k)).run (ev k).s (ev k).v (ev k).s' (ev k).r (ev k).w (ev k).o
  ok : ∀ k, k < l.length → (ev k).o.all id = true
  feet : ∀ k, k < l.length → F[k]? = some ⟨j + k, (ev k).r.filter (old (nx k) (nx (k + 1))), (ev k).w.filter (old (nx k) (nx (k + 1))), nx k, nx (k + 1)⟩
def shift {α : Type} (a : α) (f : Nat → α) : Nat → α
  | 0 => a
  | k + 1 => f k
theorem evalFeet_tra {rec : Rec} {ops : List Oper} : ∀ (l : List Oper) (j : Nat) (tm : List AVal) (fs : List Foot) (s : St) (tm' : List AVal) (fs' : List Foot) (s' : St), (evalFeet E rec ops j l tm fs).run s = .ok (tm', fs') s' → OkObs s' →
    ∃ F ev hp nx tv, fs' = F.reverse ++ fs ∧ Tra E rec ops j l tm s tm' s' F ev hp nx tv := by
  intro l
  induction l with
  | nil =>
    intro j tm fs s tm' fs' s' h ho
    obtain ⟨he, rfl⟩ := pure_ok h
    injection he with q1 q2
    subst q1; subst q2
    exact ⟨[], fun _ => ⟨s', undef, s', [], [], []⟩, fun _ => s'.heap, fun _ => s'.next, fun _ => tm', by simp, ⟨rfl, rfl, rfl, rfl, rfl, rfl, rfl, fun k hk => by simp at hk, fun k hk => by simp at hk, fun k o hk => by simp at hk, fun k o hk => by simp at hk,
      fun k hk => by simp at hk, fun k hk => by simp at hk⟩⟩
  | cons o l ih =>
    intro j tm fs s tm' fs' s' h ho
    obtain ⟨⟨v, f⟩, s1, h1, h2, ho1, _, _⟩ := M.bind_did h ho
    obtain ⟨F, ev, hp, nx, tv, e1, t⟩ := ih (j + 1) _ _ s1 tm' fs' s' h2 ho
    have h1 : footF j (opV E rec ops o tm) s = .ok (v, f) s1 := h1
    unfold footF at h1
    cases hm : (opV E rec ops o tm).run { s with rds := [], wrs := [] } with
    | fail w => rw [hm] at h1; cases h1
    | ask b => rw [hm] at h1; cases h1
    | ok a1 sa =>
      rw [hm] at h1
      injection h1 with q1 q2
      injection q1 with q3 q4
      subst q3
      obtain ⟨r, w, ob, d⟩ := (opV E rec ops o tm).loc _ _ _ hm
      have er : sa.rds = r := by simpa using d.rds
      have ew : sa.wrs = w := by simpa using d.wrs
      have eo : sa.obs = ob ++ s.obs := d.obs
      subst q2
      refine ⟨f :: F, shift ⟨{ s with rds := [], wrs := [] }, a1, sa, r, w, ob⟩ ev, shift s.heap hp, shift s.next nx, shift tm tv, by rw [e1]; simp, ⟨rfl, ?_, rfl, ?_, rfl, ?_, by simp [t.foot], ?_, ?_, ?_, ?_, ?_, ?_⟩⟩
      · simpa [shift] using t.hN
      · simpa [shift] using t.nN
      · simpa [shift] using t.tN
      · intro k hk
        cases k with
        | zero => exact ⟨rfl, by simpa [shift] using t.h0.symm⟩
        | succ k => simpa [shift] using t.heap k (by simpa using hk)
      · intro k hk
        cases k with
        | zero => exact ⟨rfl, by simpa [shift] using t.n0.symm⟩
        | succ k => simpa [shift] using t.next k (by simpa using hk)
      · intro k o' hk
        cases k with
        | zero =>
          simp at hk; subst hk
          simpa [shift] using t.t0
        | succ k => simpa [shift] using t.tmps k o' (by simpa using hk)
      · intro k o' hk
        cases k with
        | zero =>
          simp at hk; subst hk
          exact ⟨hm, d⟩
        | succ k => simpa [shift] using t.did k o' (by simpa using hk)
      · intro k hk
        cases k with
        | zero =>
          simp only [shift]
          unfold OkObs at ho1
          simp only [eo, List.all_append, Bool.and_eq_true] at ho1
          exact ho1.1
        | succ k => simpa [shift] using t.ok k (by simpa using hk)
      · intro k hk
        cases k with
        | zero =>
          have hn0 : nx 0 = sa.next := t.n0
          simp only [shift, List.getElem?_cons_zero, hn0, Nat.add_zero]
          rw [← q4, er, ew]
        | succ k =>
          have := t.feet k (by simpa using hk)
          simp only [shift, List.getElem?_cons_succ]
          have e : j + 1 + k = j + (k + 1) := by omega
          rw [e] at this
          exact this
theorem textFeet_eq {ops : List Oper} : ∀ (l : List Oper) (j : Nat) (fs : List Foot), ∃ F : List Foot, textFeet ops j l fs = F.reverse ++ fs ∧ ∀ (k : Nat) (o : Oper), l[k]? = some o → F[k]? = some ⟨j + k, looks ops o, o.dst.toList, 0, 0⟩ := by
  intro l
  induction l with
  | nil => intro j fs; exact ⟨[], by simp [textFeet], fun k o h => by simp at h⟩
  | cons q l ih =>
    intro j fs
    obtain ⟨F, h1, h2⟩ := ih (j + 1) (⟨j, looks ops q, q.dst.toList, 0, 0⟩ :: fs)
    refine ⟨⟨j, looks ops q, q.dst.toList, 0, 0⟩ :: F, by simp only [textFeet, h1]; simp, fun k o hk => ?_⟩
    cases k with
    | zero => simp at hk; subst hk; simp
    | succ k =>
      have := h2 k o (by simpa using hk)
      have e : j + 1 + k = j + (k + 1) := by omega
      rw [e] at this
      simpa using this
theorem Tra.mono {rec : Rec} {ops : List Oper} {j : Nat} {l : List Oper} {tm tm' : List AVal} {s s' : St} {F : List Foot} {ev : Nat → Ev} {hp : Nat → Tr} {nx : Nat → Nat} {tv : Nat → List AVal}
    (t : Tra E rec ops j l tm s tm' s' F ev hp nx tv) : ∀ i k, i ≤ k → k ≤ l.length → nx i ≤ nx k := by
  intro i k
  induction k with
  | zero =>
    intro h _; have : i = 0 := by omega
    subst this; exact Nat.le_refl _
  | succ k ih =>
    intro h hk
    by_cases e : i = k + 1
    · subst e; exact Nat.le_refl _
    · have h1 := ih (by omega) (by omega)
      obtain ⟨o, ho⟩ : ∃ o, l[k]? = some o := ⟨_, List.getElem?_eq_getElem (by omega)⟩
      have h2 := (t.did k o ho).2.next
      rw [(t.next k (by omega)).1, (t.next k (by omega)).2] at h2
      omega
theorem length_putT (tm : List AVal) (d : Option Tmp) (v : AVal) : (putT tm d v).length = tm.length := by
  cases d with
  | none => rfl
  | some d => exact put_length tm d v
theorem get_putT (tm : List AVal) (d : Option Tmp) (v : AVal) (x : Nat) : (putT tm d v)[x]? = if d = some x then (if x < tm.length then some v else none) else tm[x]? := by
  cases d with
  | none => simp [putT]
  | some d =>
    simp only [putT, put_get, Option.some.injEq]
    by_cases e : x = d
    · subst e
      by_cases hl : x < tm.length
      · simp [hl]
      · have hl' : tm.length ≤ x := Nat.not_lt.1 hl
        simp [hl, List.getElem?_eq_none hl']
    · have e' : ¬ d = x := fun h => e h.symm
      simp [e, e']
theorem Tra.len {rec : Rec} {ops : List Oper} {j : Nat} {l : List Oper} {tm tm' : List AVal} {s s' : St} {F : List Foot} {ev : Nat → Ev} {hp : Nat → Tr} {nx : Nat → Nat} {tv : Nat → List AVal}
    (t : Tra E rec ops j l tm s tm' s' F ev hp nx tv) : ∀ k, k ≤ l.length → (tv k).length = tm.length := by
  intro k
  induction k with
  | zero => intro _; rw [t.t0]
  | succ k ih =>
    intro hk
    obtain ⟨o, ho⟩ : ∃ o, l[k]? = some o := ⟨_, List.getElem?_eq_getElem (by omega)⟩
    rw [t.tmps k o ho, length_putT, ih (by omega)]
/-- Who touches what. -/
def TH (ev : Nat → Ev) (nx : Nat → Nat) (k x : Nat) : Prop := x ∈ (ev k).w ∨ (nx k ≤ x ∧ x < nx (k + 1))
def TT (l : List Oper) (k x : Nat) : Prop := ∃ o, l[k]? = some o ∧ o.dst = some x
theorem Tra.heaps {rec : Rec} {ops : List Oper} {j : Nat} {l : List Oper} {tm tm' : List AVal} {s s' : St} {F : List Foot} {ev : Nat → Ev} {hp : Nat → Tr} {nx : Nat → Nat} {tv : Nat → List AVal}
    (t : Tra E rec ops j l tm s tm' s' F ev hp nx tv) (x : Nat) : ∀ k, k ≤ l.length → last s.heap.get (TH ev nx) (fun k x => (hp (k + 1)).get x) (fun _ => True) k x = (hp k).get x := by
  intro k
  induction k with
  | zero => intro _; simp only [last, t.h0]
  | succ k ih =>
    intro hk
    simp only [last]
    split
    · rfl
    · rename_i h
      have hn : ¬ TH ev nx k x := fun hh => h ⟨trivial, hh⟩
      obtain ⟨o, ho⟩ : ∃ o, l[k]? = some o := ⟨_, List.getElem?_eq_getElem (by omega)⟩
      have hr := (t.did k o ho).2.rest x (fun hh => hn (.inl hh)) (fun hh => hn (.inr (by
        have := hh.1; have := hh.2
        rw [(t.next k (by omega)).1] at *
        rw [(t.next k (by omega)).2] at *
        exact ⟨by assumption, by assumption⟩)))
      rw [(t.heap k (by omega)).1, (t.heap k (by omega)).2] at hr
      rw [ih (by omega), hr]
theorem Tra.tmpsAt {rec : Rec} {ops : List Oper} {j : Nat} {l : List Oper} {tm tm' : List AVal} {s s' : St} {F : List Foot} {ev : Nat → Ev} {hp : Nat → Tr} {nx : Nat → Nat} {tv : Nat → List AVal}
    (t : Tra E rec ops j l tm s tm' s' F ev hp nx tv) (x : Nat) : ∀ k, k ≤ l.length → last (fun x => tm[x]?) (TT l) (fun k x => (tv (k + 1))[x]?) (fun _ => True) k x = (tv k)[x]? := by
  intro k
  induction k with
  | zero => intro _; simp only [last, t.t0]
  | succ k ih =>
    intro hk
    simp only [last]
    split
    · rfl
    · rename_i h
      obtain ⟨o, ho⟩ : ∃ o, l[k]? = some o := ⟨_, List.getElem?_eq_getElem (by omega)⟩
      have hd : ¬ o.dst = some x := fun hh => h ⟨trivial, o, ho, hh⟩
      rw [ih (by omega), t.tmps k o ho, get_putT, if_neg hd]

theorem count_set : ∀ (l : List Bool) (i : Nat), l[i]? = some false → ((l.set i true).filter (!·)).length + 1 = (l.filter (!·)).length
  | [], i, h => by simp at h
  | b :: l, 0, h => by simp at h; subst h; simp
  | b :: l, i + 1, h => by
    have := count_set l i (by simpa using h)
    cases b <;> simp at this ⊢ <;> omega
theorem count_zero : ∀ (l : List Bool), (l.filter (!·)).length = 0 → ∀ (i : Nat) (b : Bool), l[i]? = some b → b = true
  | [], _, i, b, h => by simp at h
  | c :: l, hz, i, b, h => by
    cases c with
    | false => simp at hz
    | true =>
      cases i with
      | zero => simp at h; exact h.symm ▸ rfl
      | succ i => exact count_zero l (by simpa using hz) i b (by simpa using h)
section
variable {ρ₀ : Ren} {m : Mem} {s s' : St} {w₀ : World}
/-- How it stands when those of S have been done. -/
structure Inv (E : Env) (ρ₀ : Ren) (m : Mem) (s : St) (w₀ : World) (a₀ : Act) (l : List Oper) (tm : List AVal) (ev : Nat → Ev) (hp : Nat → Tr) (nx : Nat → Nat) (tv : Nat → List AVal) (S : Nat → Prop) (a : Act) (w : World) (ρ : Ren) (h : Tr) (ts : List AVal) : Prop where
  heap : ∀ x, h.get x = last s.heap.get (TH ev nx) (fun k x => (hp (k + 1)).get x) S l.length x
  len : ts.length = tm.length
  tmps : ∀ x : Nat, ts[x]? = last (fun x => tm[x]?) (TT l) (fun k x => (tv (k + 1))[x]?) S l.length x
  closed : ∀ k o, S k → l[k]? = some o → ∀ e ∈ o.after, Region.binds .any e = true → S e.on
  rel : Rel E.P ρ m h.get w
  rl : RL ρ m ts a.tmps
  ren : RenLe ρ₀ ρ
  new : ∀ id, ρ id ≠ none → ρ₀ id ≠ none ∨ ∃ k, S k ∧ k < l.length ∧ nx k ≤ id ∧ id < nx (k + 1)
  fr : Fr w₀ w
  defers : a.defers = a₀.defers
theorem Inv.step {rec : Rec} (hrec : SimC E.P rec) {ops : Array Oper} {tm tm' : List AVal} {F : List Foot} {ev : Nat → Ev} {hp : Nat → Tr} {nx : Nat → Nat} {tv : Nat → List AVal} {a₀ a : Act} {w : World} {ρ : Ren} {h : Tr} {ts : List AVal} {S : Nat → Prop}
    (t : Tra E rec ops.toList 0 ops.toList tm s tm' s' F ev hp nx tv) (hback : backB 0 ops.toList = true) (hfine : fine (befores [] ops.toList) F.reverse = true) (htext : fine (befores [] ops.toList) (textFeet ops.toList 0 ops.toList []) = true) (hfr : Fresh ρ₀ s s')
    (I : Inv E ρ₀ m s w₀ a₀ ops.toList tm ev hp nx tv S a w ρ h ts) {i : Nat} {o : Oper} (hi : ops[i]? = some o) (hS : ¬ S i) (hall : ∀ e ∈ o.after, Region.binds .any e = true → S e.on) {ro : Option Nat} {n : Nat} {Q : Exit → Act → World → Prop} {next : Act → World → Prop}
    (hk : ∀ x w' ρ' h' ts', Inv E ρ₀ m s w₀ a₀ ops.toList tm ev hp nx tv (fun k => S k ∨ k = i) (a.put o.dst x) w' ρ' h' ts' → next (a.put o.dst x) w') :
    if Region.wanted o (yielded ops a.tmps) then o.wpIn (Fw ro) n E.P a w next Q else (∀ f, o.about E.P w a.eval = some f → (Fw ro).fn f) ∧ next (a.put o.dst Go.undef) w := by
  have hil : i < ops.toList.length := by simpa using (Array.getElem?_eq_some_iff.1 hi).1
  have hi' : ops.toList[i]? = some o := by simpa using hi
  -- who is ahead
  have ahead : ∀ j, ((befores [] ops.toList).getD i 0).testBit j = true → S j := closed_bits hback I.closed i o hi' hall
  have behind : ∀ k, i < k → k < ops.toList.length → S k → ((befores [] ops.toList).getD k 0).testBit i = true → False := fun k _ hk hs hb => by
    obtain ⟨ok, hok⟩ : ∃ ok, ops.toList[k]? = some ok := ⟨_, List.getElem?_eq_getElem hk⟩
    exact hS (closed_bits hback I.closed k ok hok (I.closed k ok hs hok) i hb)
  have sep : ∀ j k, j < k → k < ops.toList.length → ((befores [] ops.toList).getD k 0).testBit j ≠ true → ∀ x,
      ((x ∈ (ev j).r ∨ x ∈ (ev j).w ∨ (nx j ≤ x ∧ x < nx (j + 1))) → TH ev nx k x → False) ∧ (TH ev nx j x → (x ∈ (ev k).r ∨ x ∈ (ev k).w ∨ (nx k ≤ x ∧ x < nx (k + 1))) → False) := by
    intro j k hjk hk hb x
    have := fine_at hfine hjk (t.feet j (by omega)) (t.feet k hk)
    have hc := this.resolve_right (by simpa using hb)
    exact apart hc (t.mono (j + 1) k (by omega) (by omega))
  have sepT : ∀ j k oj ok, j < k → ops.toList[j]? = some oj → ops.toList[k]? = some ok → ((befores [] ops.toList).getD k 0).testBit j ≠ true → ∀ x,
      ((x ∈ looks ops.toList oj ∨ oj.dst = some x) → ok.dst = some x → False) ∧ (oj.dst = some x → (x ∈ looks ops.toList ok ∨ ok.dst = some x) → False) := by
    intro j k oj ok hjk hj hk hb x
    obtain ⟨FT, e1, e2⟩ := textFeet_eq (ops := ops.toList) ops.toList 0 []
    rw [e1, List.append_nil] at htext
    have := fine_at htext hjk (e2 j oj hj) (e2 k ok hk)
    have hb' : ((befores [] ops.toList).getD (0 + k) 0).testBit (0 + j) ≠ true := by simpa using hb
    obtain ⟨c1, c2, c3, _⟩ := clash_false (this.resolve_right hb')
    simp only at c1 c2 c3
    refine ⟨fun hx hd => ?_, fun hd hx => ?_⟩
    · rcases hx with hx | hx
      · exact meets_false c3 hx (by simp [hd])
      · exact meets_false c2 (a := x) (by simp [hx]) (by simp [hd])
    · rcases hx with hx | hx
      · exact meets_false c1 (a := x) (by simp [hd]) hx
      · exact meets_false c2 (a := x) (by simp [hd]) (by simp [hx])
  obtain ⟨hrun, hd⟩ := t.did i o hi'
  obtain ⟨n1, n2⟩ := t.next i hil
  obtain ⟨g1, g2⟩ := t.heap i hil
  have hnew : ∀ x, New (ev i).s (ev i).s' x ↔ (nx i ≤ x ∧ x < nx (i + 1)) := fun x => by unfold New; rw [n1, n2]
  -- the heap that is there agrees with the heap of the text
  have agree : ∀ x, (x ∈ (ev i).r ∨ x ∈ (ev i).w ∨ (nx i ≤ x ∧ x < nx (i + 1))) → h.get x = (hp i).get x := by
    intro x hx
    rw [I.heap x, last_agree (i := i) (by omega), t.heaps x i (by omega)]
    · intro j hj hT
      by_cases hb : ((befores [] ops.toList).getD i 0).testBit j = true
      · exact ahead j hb
      · exact ((sep j i hj hil hb x).2 hT hx).elim
    · intro k hk hkn hs hT
      have hne : i ≠ k := fun e => hS (e ▸ hs)
      by_cases hb : ((befores [] ops.toList).getD k 0).testBit i = true
      · exact behind k (by omega) hkn hs hb
      · exact (sep i k (by omega) hkn hb x).1 hx hT
  have agreeT : ∀ x ∈ looks ops.toList o, nth ts x undef = nth (tv i) x undef := by
    intro x hx
    rw [nth_get, nth_get, I.tmps x, last_agree (i := i) (by omega), t.tmpsAt x i (by omega)]
    · rintro j hj ⟨oj, hoj, hdj⟩
      by_cases hb : ((befores [] ops.toList).getD i 0).testBit j = true
      · exact ahead j hb
      · exact ((sepT j i oj o hj hoj hi' hb x).2 hdj (.inl hx)).elim
    · rintro k hk hkn hs ⟨ok, hok, hdk⟩
      have hne : i ≠ k := fun e => hS (e ▸ hs)
      by_cases hb : ((befores [] ops.toList).getD k 0).testBit i = true
      · exact behind k (by omega) hkn hs hb
      · exact (sepT i k o ok (by omega) hi' hok hb x).1 (.inl hx) hdk
  -- the operation does here what it did there
  obtain ⟨t', ht', q1, q2, q3, q4, q5, q6, q7⟩ := hd.again { heap := h, next := nx i, rds := [], wrs := [], obs := [], orc := (ev i).s.orc } n1.symm rfl (fun x hx => by
    rw [g1]
    refine agree x ?_
    rcases hx with hx | hx | hx
    · exact .inl hx
    · exact .inr (.inl hx)
    · exact .inr (.inr ((hnew x).1 hx)))
  have hok : OkObs t' := by unfold OkObs; rw [q5]; simpa using t.ok i hil
  rw [opV_congr (tm := tv i) (tm' := ts) (fun x hx => (agreeT x hx).symm)] at ht'
  have hfresh : Fresh ρ { heap := h, next := nx i, rds := [], wrs := [], obs := [], orc := (ev i).s.orc } t' := by
    intro id hid
    have h1 : nx i ≤ id := hid.1
    have h2 : id < nx (i + 1) := by have := hid.2; rw [q1, n2] at this; exact this
    cases e : ρ id with
    | none => rfl
    | some r =>
      rcases I.new id (by rw [e]; simp) with h0 | ⟨k, hsk, hkl, hk1, hk2⟩
      · refine absurd (hfr id ⟨?_, ?_⟩) h0
        · have := t.mono 0 i (by omega) (by omega); rw [t.n0] at this; omega
        · have := t.mono (i + 1) ops.toList.length (by omega) (by omega); rw [t.nN] at this; omega
      · have hne : i ≠ k := fun e => hS (e ▸ hsk)
        rcases Nat.lt_or_ge i k with hlt | hge
        · have := t.mono (i + 1) k (by omega) (by omega); omega
        · have := t.mono (k + 1) i (by omega) (by omega); omega
  refine opV_sim hrec ht' hok I.rel hfresh I.rl (fun x w' ρ' hpost hx => ?_)
  refine hk x w' ρ' t'.heap (putT ts o.dst (ev i).v) ⟨fun y => ?_, by rw [length_putT, I.len], fun y => ?_, ?_, hpost.rel, put_sim (I.rl.mono hpost.ren hpost.mle) o.dst hx, fun id r hr => hpost.ren id r (I.ren id r hr), fun id hid => ?_,
    I.fr.trans hpost.fr, by rw [Act.put_defers, I.defers]⟩
  · rw [last_put hS hil]
    · by_cases hT : TH ev nx i y
      · rw [if_pos hT]
        have := q6 y (by
          rcases hT with hT | hT
          · exact .inl hT
          · exact .inr ((hnew y).2 hT))
        rw [this, g2]
      · rw [if_neg hT]
        have := q7 y (fun hh => hT (.inl hh)) (fun hh => hT (.inr ((hnew y).1 hh)))
        rw [this]
        exact I.heap y
    · intro hT k hik hkn hs hTk
      by_cases hb : ((befores [] ops.toList).getD k 0).testBit i = true
      · exact behind k hik hkn hs hb
      · exact (sep i k hik hkn hb y).1 (hT.imp (fun h => h) (fun h => h) |>.elim (fun h => .inr (.inl h)) (fun h => .inr (.inr h))) hTk
  · rw [last_put hS hil]
    · by_cases hT : TT ops.toList i y
      · rw [if_pos hT]
        obtain ⟨o', ho', hdo⟩ := hT
        rw [hi'] at ho'
        injection ho' with ho'
        subst ho'
        rw [t.tmps i o hi', get_putT, get_putT, if_pos hdo, if_pos hdo, I.len, t.len i (by omega)]
      · rw [if_neg hT]
        have hdo : ¬ o.dst = some y := fun hh => hT ⟨o, hi', hh⟩
        rw [get_putT, if_neg hdo]
        exact I.tmps y
    · rintro ⟨o', ho', hdo⟩ k hik hkn hs ⟨ok, hok', hdk⟩
      by_cases hb : ((befores [] ops.toList).getD k 0).testBit i = true
      · exact behind k hik hkn hs hb
      · exact (sepT i k o' ok hik ho' hok' hb y).1 (.inr hdo) hdk
  · intro k ok hs hok' e he hbe
    rcases hs with hs | rfl
    · exact .inl (I.closed k ok hs hok' e he hbe)
    · rw [hi'] at hok'
      injection hok' with hok'
      subst hok'
      exact .inl (hall e he hbe)
  · rcases hpost.new id hid with h1 | h1
    · rcases I.new id h1 with h2 | ⟨k, hsk, h3⟩
      · exact .inl h2
      · exact .inr ⟨k, .inl hsk, h3⟩
    · refine .inr ⟨i, .inr rfl, hil, h1.1, ?_⟩
      have := h1.2
      rw [q1, n2] at this
      exact this
theorem any_sim {rec : Rec} (hrec : SimC E.P rec) {ops : Array Oper} {tm tm' : List AVal} {F : List Foot} {ev : Nat → Ev} {hp : Nat → Tr} {nx : Nat → Nat} {tv : Nat → List AVal} {a₀ : Act}
    (t : Tra E rec ops.toList 0 ops.toList tm s tm' s' F ev hp nx tv) (hback : backB 0 ops.toList = true) (hfine : fine (befores [] ops.toList) F.reverse = true) (htext : fine (befores [] ops.toList) (textFeet ops.toList 0 ops.toList []) = true) (hfr : Fresh ρ₀ s s')
    {ro : Option Nat} {n : Nat} {Q : Exit → Act → World → Prop} (hQ : ∀ a' w' ρ', Post E.P ρ₀ m s w₀ ρ' m s' w' → RL ρ' m tm' a'.tmps → a'.defers = a₀.defers → Q .normal a' w') :
    ∀ (fuel : Nat) (listed : Array Bool), listed.size = ops.size → (listed.toList.filter (!·)).length ≤ fuel → ∀ a w ρ h ts, Inv E ρ₀ m s w₀ a₀ ops.toList tm ev hp nx tv (fun k => listed.getD k false = true) a w ρ h ts →
      wpAnyIn (Fw ro) n E.P .any ops Q fuel listed a w := by
  intro fuel
  have lst : ∀ (listed : Array Bool), listed.size = ops.size → ∀ k, listed.getD k true = false ↔ (k < ops.size ∧ ¬ listed.getD k false = true) := by
    intro listed hsz k
    by_cases hk : k < ops.size
    · have : k < listed.size := by omega
      simp [Array.getD, this, hk]
    · have : ¬ k < listed.size := by omega
      simp [Array.getD, this, hk]
  -- nothing is ready: all is done
  have done : ∀ (listed : Array Bool), listed.size = ops.size → Region.ready .any ops listed = [] → ∀ a w ρ h ts, Inv E ρ₀ m s w₀ a₀ ops.toList tm ev hp nx tv (fun k => listed.getD k false = true) a w ρ h ts → Q .normal a w := by
    intro listed hsz hr a w ρ h ts I
    have all : ∀ k, k < ops.size → listed.getD k false = true := by
      intro k
      induction k using Nat.strongRecOn with
      | _ k ih =>
        intro hk
        by_cases hl : listed.getD k false = true
        · exact hl
        · have ho : ops[k]? = some ops[k] := Array.getElem?_eq_getElem hk
          have : k ∈ Region.ready .any ops listed := mem_ready.2 ⟨(lst listed hsz k).2 ⟨hk, hl⟩, ops[k], ho, fun e he hb => by
            have := backB_spec ops.toList 0 hback k ops[k] (by rw [Array.getElem?_toList]; exact ho) e he hb
            exact ih e.on (by omega) (by omega)⟩
          rw [hr] at this
          cases this
    have hT : ∀ {α : Type} (base : Nat → α) (T : Nat → Nat → Prop) (V : Nat → Nat → α) (x : Nat), last base T V (fun k => listed.getD k false = true) ops.toList.length x = last base T V (fun _ => True) ops.toList.length x := by
      intro α base T V x
      exact last_agree (Nat.le_refl _) (fun j hj _ => all j (by simpa using hj)) (fun k hk hk' => by omega)
    refine hQ a w ρ ⟨I.ren, fun id hid => ?_, fun _ _ h => h, I.rel.congr (fun id => ?_), I.fr, ?_⟩ ?_ I.defers
    · rcases I.new id hid with h0 | ⟨k, _, hkl, h1, h2⟩
      · exact .inl h0
      · refine .inr ⟨?_, ?_⟩
        · have := t.mono 0 k (by omega) (by omega); rw [t.n0] at this; omega
        · have := t.mono (k + 1) ops.toList.length (by omega) (by omega); rw [t.nN] at this; omega
    · rw [I.heap id, hT, t.heaps id _ (Nat.le_refl _), t.hN]
    · have := t.mono 0 ops.toList.length (by omega) (by omega); rw [t.n0, t.nN] at this; exact this
    · have : ts = tm' := by
        apply List.ext_getElem?
        intro x
        rw [I.tmps x, hT, t.tmpsAt x _ (Nat.le_refl _), t.tN]
      rw [← this]; exact I.rl
  induction fuel with
  | zero =>
    intro listed hsz hc a w ρ h ts I
    have hr : Region.ready .any ops listed = [] := by
      cases hr : Region.ready .any ops listed with
      | nil => rfl
      | cons j l =>
        have hj : j ∈ Region.ready .any ops listed := by rw [hr]; exact List.mem_cons_self
        obtain ⟨h1, o, h2, _⟩ := mem_ready.1 hj
        have hj' := (lst listed hsz j).1 h1
        have hlt : j < listed.size := by omega
        have := count_zero listed.toList (by omega) j listed[j] (by simp [hlt])
        exfalso
        apply hj'.2
        simp [Array.getD, hlt, this]
    exact ⟨hr, done listed hsz hr a w ρ h ts I⟩
  | succ fuel ih =>
    intro listed hsz hc a w ρ h ts I
    refine ⟨fun hr => done listed hsz hr a w ρ h ts I, fun i hi => ?_⟩
    obtain ⟨h1, o, h2, h3⟩ := mem_ready.1 hi
    have hi' := (lst listed hsz i).1 h1
    unfold wpOpIn
    rw [h2]
    refine I.step hrec t hback hfine htext hfr h2 hi'.2 h3 (fun x w' ρ' h' ts' I' => ?_)
    refine ih (listed.setIfInBounds i true) (by simpa using hsz) ?_ _ w' ρ' h' ts' ?_
    · have hlt : i < listed.size := by omega
      have hf : listed.toList[i]? = some false := by
        have : listed.getD i true = listed[i] := by simp [Array.getD, hlt]
        rw [this] at h1
        simp [hlt, h1]
      have := count_set listed.toList i hf
      simp only [Array.toList_setIfInBounds]
      omega
    · have e : (fun k => (listed.setIfInBounds i true).getD k false = true) = fun k => listed.getD k false = true ∨ k = i := by
        funext k
        apply propext
        have hlt : i < listed.size := by omega
        by_cases hk : k = i
        · subst hk
          simp [Array.getD, hlt]
        · have hk' : ¬ i = k := fun h => hk h.symm
          simp only [hk, or_false]
          simp only [Array.getD_eq_getD_getElem?, Array.getElem?_setIfInBounds, hk', if_false]
      rw [e]; exact I'
theorem draw_sim {rec : Rec} (hrec : SimC E.P rec) {fn : FuncId} {rnd : Option Nat} {id : Nat} {ops : Array Oper} : Sim1 E.P rnd (.region id ops true) (step E rec fn rnd (.region id ops true)) := by
  intro tm e tm' s s' h ho ρ m w a o n Q hr hf ht hn hQ
  simp only [step] at h
  cases hk : chookAt E.rhooks fn id (.region id ops true) with
  | some act =>
    rw [hk] at h
    exact chook_ok hk rnd tm e tm' s s' h ho ρ m w a o n Q hr hf ht hn hQ
  | none =>
  rw [hk] at h
  obtain ⟨tm1, s1, h1, h2⟩ := M.bind_ok h
  obtain ⟨he1, rfl⟩ := pure_ok h2
  injection he1 with q1 q2
  subst q1; subst q2
  obtain ⟨_, s2, h3, h4, ho2, _, n2⟩ := M.bind_did h1 ho
  obtain ⟨htx, e2⟩ := ob_ok h3 ho2
  obtain ⟨⟨tm3, fs⟩, s3, h5, h6, ho3, _, _⟩ := M.bind_did h4 ho
  obtain ⟨_, s4, h7, h8⟩ := M.bind_ok h6
  obtain ⟨rfl, rfl⟩ := pure_ok h8
  obtain ⟨hfine, e7⟩ := ob_ok h7 ho
  obtain ⟨F, ev, hp, nx, tv, rfl, t⟩ := evalFeet_tra _ _ _ _ _ _ _ _ h5 ho3
  rw [List.append_nil] at hfine
  have htx' : backB 0 ops.toList = true ∧ fine (befores [] ops.toList) (textFeet ops.toList 0 ops.toList []) = true := by
    have : textFine ops.toList = true := htx
    unfold textFine at this
    simpa using this
  have hr2 := hr.of_same e2
  have hf2 : Fresh ρ s2 s3 := fun i hi => hf i ⟨by have := hi.1; rw [e2.next] at this; exact this, by have := hi.2; rw [e7.next]; exact this⟩
  refine wpIn_region_any E.mixed (any_sim (ρ₀ := ρ) (m := m) (w₀ := w) (a₀ := a) hrec t htx'.1 hfine htx'.2 hf2 (fun a' w' ρ' hp' ht' hd => ?_) ops.size (Array.replicate ops.size false) (by simp) (by simp) a _ ρ s2.heap tm ?_)
  · have hpost : Post E.P ρ m s w ρ' m s' w' := ⟨hp'.ren, fun i hi => (hp'.new i hi).imp_right fun x => ⟨by have := x.1; rw [e2.next] at this; exact this, by have := x.2; rw [e7.next]; exact this⟩, hp'.mem, hp'.rel.of_same e7, hp'.fr, by
      have := hp'.next; rw [e2.next] at this; rw [e7.next]; exact this⟩
    refine hQ _ _ _ ρ' [] ⟨?_, ?_, .normal, hd, .nil m, fun _ => rfl⟩
    · rw [Mem.with_nil]; exact hpost
    · rw [Mem.with_nil]; exact forget_sim ht'
  · have none : ∀ k, ¬ ((Array.replicate ops.size false).getD k false = true) := fun k => by
      by_cases hk : k < ops.size <;> simp [Array.getD, hk]
    have hl : ∀ {α : Type} (base : Nat → α) (T : Nat → Nat → Prop) (V : Nat → Nat → α) (x : Nat), last base T V (fun k => (Array.replicate ops.size false).getD k false = true) ops.toList.length x = base x := by
      intro α base T V x
      rw [last_agree (i := 0) (Nat.zero_le _) (fun j hj => by omega) (fun k _ _ hs => absurd hs (none k))]
      rfl
    exact ⟨fun x => by rw [hl], rfl, fun x => by rw [hl], fun k _ hs => absurd hs (none k), hr2.drew, ht, .refl ρ, fun _ h => .inl h, .drew w, rfl⟩
end
end Go.Am
