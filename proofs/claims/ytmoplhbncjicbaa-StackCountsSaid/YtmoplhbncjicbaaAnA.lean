/- Calls, rounds, code: what it is that the abstract machine does what the model does. -/
import Derived.Test.YtmoplhbncjicbaaAmZ
import Derived.RangeFuncLeaves
import Derived.TacticsIn
set_option linter.unusedSimpArgs false
set_option linter.unusedVariables false
namespace Go.Am
open Go

/-! ### The wide fence, in a round or not -/
theorem Fw.depth (o : Option Nat) {n : Nat} : (Fw o).depth.isSome = true → 1 ≤ n := fun h => by cases h
theorem Fw.calls {o : Option Nat} {n : Nat} {P : Program} {f : FuncId} {args : Array Value} {w : World} {K : Ending → World → Prop} (h : Calls P f args w K) : CallsIn (Fw o) n P f args w K :=
  (callsIn_wide (n := n)).2 h

/-! ### Code: rules that the kit's have not in this shape -/
section
variable {P : Program} {b : Frame} {a : Act} {k : List Item} {cs : List Frame} {w : World}
theorem stepR_scope {c : Code} : Go.step P (lone (b.atR a (.code (.scope c) :: k)) cs w) = .next (lone (b.atR a (.code c :: .inScope c :: k)) cs w) :=
  step_lone_go (by simp [stepG, stepG.exec, Frame.atR])
theorem stepR_inScope {c : Code} : Go.step P (lone (b.atR a (.inScope c :: k)) cs w) = .next (lone (b.atR a k) cs w) :=
  step_lone_go (by simp [stepG, stepG.exec, Frame.atR])
end
def noGoto (Q : Exit → Act → World → Prop) : Exit → Act → World → Prop
  | .goto _, _, _ => False
  | e, a, w => Q e a w
section
variable {F : Fence} {n : Nat} {P : Program} {Q : Exit → Act → World → Prop} {a : Act} {w : World}
theorem wpIn_scope_straight {c : Code} (h : c.wpIn F n P (noGoto Q) a w) : (Code.scope c).wpIn F n P Q a w := by
  intro b k cs hro hb hr
  have h0 : (lone (b.atR a (.code (.scope c) :: k)) cs w).fenced P F := fenced_calm hb hr rfl
  obtain ⟨e, a₁, w₁, hq, harr⟩ := h b (.inScope c :: k) cs hro hb hr
  cases e with
  | normal => exact ⟨.normal, a₁, w₁, hq, .head h0 stepR_scope (StepsIn.trans harr (.one (fenced_calm hb hr rfl) stepR_inScope))⟩
  | exit id =>
    have hx : exitTo id (.inScope c :: k) = exitTo id k := by simp [exitTo]
    exact ⟨.exit id, a₁, w₁, hq, fun k' hk => .head h0 stepR_scope (harr.1 k' (by rw [hx]; exact hk)),
      fun hr' hk => let ⟨k₁, h1, h2⟩ := harr.2 hr' (by rw [hx]; exact hk); ⟨k₁, h1, .head h0 stepR_scope h2⟩⟩
  | goto l => exact hq.elim
  | ret => exact ⟨_, a₁, w₁, hq, .of_steps (.one h0 stepR_scope) harr⟩
  | panic ch => exact ⟨_, a₁, w₁, hq, .of_steps (.one h0 stepR_scope) harr⟩
  | outgrown => exact ⟨_, a₁, w₁, hq, .of_steps (.one h0 stepR_scope) harr⟩
theorem least {p : Nat → Prop} : ∀ j, p j → ∃ i, p i ∧ ∀ k, p k → i ≤ k := by
  intro j
  induction j using Nat.strongRecOn with
  | _ j ih =>
    intro h
    by_cases hh : ∃ i, i < j ∧ p i
    · obtain ⟨i, hi, hp⟩ := hh
      exact ih i hi hp
    · refine ⟨j, h, fun k hk => ?_⟩
      rcases Nat.lt_or_ge k j with hlt | hge
      · exact absurd ⟨k, hlt, hk⟩ hh
      · exact hge
open Classical in
/-- A loop whose rounds are numbered downwards. -/
theorem wpIn_loop_ind {c : Code} (I : Nat → Act → World → Prop) (zero : ∀ a w, ¬ I 0 a w)
    (round : ∀ j a w, I (j + 1) a w → c.wpIn F n P (Exit.then (fun a' w' => I j a' w') Q) a w) (j : Nat) (h : I j a w) : (Code.loop c).wpIn F n P Q a w := by
  let J : Act → World → Prop := fun a w => ∃ i, I i a w ∧ ∀ k, I k a w → i ≤ k
  let μ : Act → World → Nat := fun a w => if h : J a w then Classical.choose h else 0
  refine wpIn_loop J μ (least (p := fun i => I i a w) j h) (fun a w hJ => ?_)
  have hm : μ a w = Classical.choose hJ := by simp only [μ]; rw [dif_pos hJ]
  have hf := Classical.choose_spec hJ
  rw [← hm] at hf
  cases hn : μ a w with
  | zero => rw [hn] at hf; exact absurd hf.1 (zero a w)
  | succ i =>
    rw [hn] at hf
    refine wpIn_mono (round i a w hf.1) (fun e a' w' hq => ?_)
    cases e with
    | normal =>
      have hJ' : J a' w' := least (p := fun i => I i a' w') i hq
      have hm' : μ a' w' = Classical.choose hJ' := by simp only [μ]; rw [dif_pos hJ']
      have := (Classical.choose_spec hJ').2 i hq
      exact ⟨hJ', by omega⟩
    | _ => exact hq
end

/-! ### Marks -/
theorem Mem.with_nil (m : Mem) : m.with [] = m := by funext b; simp [Mem.with]
theorem Mem.with_with (m : Mem) (D D' : List Nat) : (m.with D).with D' = m.with (D' ++ D) := by
  funext b
  simp only [Mem.with, List.mem_append]
  by_cases h : b ∈ D' <;> by_cases h2 : b ∈ D <;> simp [h, h2]
theorem Mem.le_with {m : Mem} {D : List Nat} (h : ∀ r ∈ D, m r = none) : MLe m (m.with D) := ⟨fun b c t f hb => by
  have : b ∉ D := fun hd => by rw [h b hd] at hb; cases hb
  simp [Mem.with, this, hb]⟩
theorem Mem.with_le {m : Mem} {D : List Nat} : MLe (m.with D) m := ⟨fun b c t f hb => by
  unfold Mem.with at hb
  by_cases hd : b ∈ D
  · rw [if_pos hd] at hb; cases hb
  · rw [if_neg hd] at hb; exact hb⟩
theorem Marks.nil (m : Mem) : Marks m [] := ⟨.nil, fun _ h => by cases h⟩
theorem Marks.append {m : Mem} {D D' : List Nat} (h : Marks m D) (h' : Marks (m.with D) D') : Marks m (D' ++ D) := by
  have key : ∀ r ∈ D', m r = Option.none ∧ r ∉ D := fun r hr => by
    have := h'.none r hr
    unfold Mem.with at this
    by_cases hd : r ∈ D
    · rw [if_pos hd] at this; cases this
    · rw [if_neg hd] at this; exact ⟨this, hd⟩
  refine ⟨List.nodup_append.2 ⟨h'.nodup, h.nodup, fun a ha b hb e => (key a ha).2 (e ▸ hb)⟩, fun r hr => ?_⟩
  rcases List.mem_append.1 hr with hr | hr
  · exact (key r hr).1
  · exact h.none r hr

/-! ### What it is that the abstract machine does what the model does -/
theorem RN.mono {ρ ρ' : Ren} (h : RenLe ρ ρ') {x y : Option Nat} (hr : RN ρ x y) : RN ρ' x y := by
  cases hr with
  | none => exact .none
  | some id r hid => exact .some id r (h id r hid)
def SimC (P : Program) (rec : Rec) : Prop := ∀ fn rnd c, Sim1 P rnd c (rec fn rnd c)

theorem RV.list {ρ : Ren} {m : Mem} {l : List AVal} {xs : List Value} (h : RV ρ m l xs) : RL ρ m l xs.toArray := by
  induction h with
  | nil => exact .nil
  | cons hx ht ih =>
    refine ⟨by simpa using ih.len, fun i v x hv hx' => ?_⟩
    cases i with
    | zero => simp at hv hx'; subst hv; subst hx'; exact hx
    | succ i => exact ih.at_ i v x (by simpa using hv) (by simpa using hx')

/-! ### The end of a function -/
theorem Rel.drop {P : Program} {ρ : Ren} {m : Mem} {h : Nat → Option Blk} {w : World} {r : Nat} {D : List Nat} (hr : Rel P ρ (m.with (r :: D)) h w) (hm : Marks m (r :: D)) (o : Obj) : Rel P ρ (m.with D) h (World.upd w r o) := by
  have hg : w.heap[r]? = some (.deferred (some [])) := hr.mem r _ (by simp [Mem.with])
  have hlt := lt_of_heap hg
  have hle : MLe (m.with (r :: D)) (m.with D) := ⟨fun b c t f hb => by
    have := Mem.with_le.le b c t f hb
    unfold Mem.with at hb ⊢
    by_cases hd : b ∈ D
    · simp [hd] at hb
    · simp [hd, this]⟩
  refine ⟨fun id b hb => ?_, hr.inj, fun b ob hb => ?_⟩
  · obtain ⟨rb, ob, h1, h2, h3, h4⟩ := hr.live id b hb
    have hn : rb.b ∉ r :: D := fun hx => by unfold Mem.with at h4; rw [if_pos hx] at h4; cases h4
    have hn' : rb.b ≠ r := fun hx => hn (hx ▸ List.mem_cons_self)
    have hn2 : rb.b ∉ D := fun hx => hn (List.mem_cons_of_mem _ hx)
    refine ⟨rb, ob, h1, ?_, h3.mono (.refl ρ) hle, ?_⟩
    · rw [World.upd_get _ _ _ hlt, if_neg hn']; exact h2
    · unfold Mem.with at h4 ⊢; rw [if_neg hn] at h4; rw [if_neg hn2]; exact h4
  · have hne : b ≠ r := fun hx => by
      subst hx
      have h1 : b ∉ D := (List.nodup_cons.1 hm.nodup).1
      have h2 := hm.none b List.mem_cons_self
      unfold Mem.with at hb
      rw [if_neg h1, h2] at hb
      cases hb
    rw [World.upd_get _ _ _ hlt, if_neg hne]
    refine hr.mem b ob ?_
    unfold Mem.with at hb ⊢
    by_cases hd : b ∈ D
    · rw [if_pos hd] at hb; rw [if_pos (List.mem_cons_of_mem _ hd)]; exact hb
    · rw [if_neg hd] at hb; rw [if_neg (by simp [hne, hd])]; exact hb
theorem leaves {P : Program} {ρ : Ren} {m : Mem} {h : Nat → Option Blk} {n : Nat} {fn : Func} {tmps : Array Value} {R : Ending → World → Prop} : ∀ (D : List Nat) (w : World), Rel P ρ (m.with D) h w → Marks m D →
    (∀ w', Rel P ρ m h w' → Fr w w' → ∃ v, (results fn tmps).run P w' = .ok v w' ∧ R (.returned v) w') → LeavesInM (Fw none) n P fn tmps R (D.map mk) .returning w := by
  intro D
  induction D with
  | nil =>
    intro w hr hm hk
    rw [Mem.with_nil] at hr
    exact hk w hr (.refl w)
  | cons r D ih =>
    intro w hr hm hk
    have hg : w.heap[r]? = some (.deferred (some [])) := hr.mem r _ (by simp [Mem.with])
    refine ⟨by simp, .inl ⟨r, World.upd w r (.deferred none), rfl, ?_, ?_⟩⟩
    · simp only [Instr.takeDeferred, Sem.run_bind, run_getObj_at hg (fun _ _ _ h => by cases h), Result.andThen_ok, run_setObj_upd hg (fun _ _ _ h => by cases h), Sem.run_pure]
    · exact ih _ (hr.drop hm _) ⟨(List.nodup_cons.1 hm.nodup).2, fun q hq => hm.none q (List.mem_cons_of_mem _ hq)⟩ (fun w' h1 h2 => hk w' h1 ((World.upd_fr _ _ _).trans h2))

variable {E : Env}
section
variable {ρ : Ren} {m : Mem} {s s' : St} {w : World} {v : AVal}
def resVal (a : Array Value) : ResultVar → Sem Value
  | .tmp t => pure (a.getD t Go.undef)
  | .cell c t => do loadVar t (← asAddr (a.getD c Go.undef))
theorem resultOf_sim {tm : List AVal} {a : Array Value} (ht : RL ρ m tm a) : ∀ (rs : List ResultVar) {l : List AVal} {s s' : St}, (resultOf E tm rs).run s = .ok l s' → OkObs s' → Rel E.P ρ m s.heap.get w →
    ∃ xs, (rs.mapM (resVal a)).run E.P w = .ok xs w ∧ RV ρ m l xs ∧ Same s s' := by
  intro rs
  induction rs with
  | nil =>
    intro l s s' h ho hr
    obtain ⟨rfl, rfl⟩ := pure_ok h
    exact ⟨[], rfl, .nil, .refl _⟩
  | cons r rs ih =>
    intro l s s' h ho hr
    have hopd : ∀ t, R ρ m (nth tm t undef) (a.getD t Go.undef) := fun t => opd_sim (a := ⟨a, []⟩) ht (.tmp t)
    cases r with
    | tmp t =>
      obtain ⟨q, s1, h1, h2⟩ := M.bind_ok h
      obtain ⟨rfl, rfl⟩ := pure_ok h2
      obtain ⟨xs, k1, k2, k3⟩ := ih h1 ho hr
      refine ⟨_, ?_, .cons (hopd t) k2, k3⟩
      simp only [List.mapM_cons, resVal, Sem.run_bind, Sem.run_pure, Result.andThen_ok, k1]
    | cell c t =>
      obtain ⟨q, s1, h1, h2, ho1, _, _⟩ := M.bind_did h ho
      obtain ⟨q2, s2, h3, h4⟩ := M.bind_ok h2
      obtain ⟨rfl, rfl⟩ := pure_ok h4
      obtain ⟨ad, y, g1, g2, g3, g4⟩ := load_at h1 ho1 hr (hopd c)
      obtain ⟨xs, k1, k2, k3⟩ := ih h3 ho (hr.of_same g4)
      refine ⟨_, ?_, .cons g3 k2, g4.trans k3⟩
      simp only [List.mapM_cons, resVal, Sem.run_bind, Sem.run_pure, Result.andThen_ok, g1, asAddr, g2, k1]
theorem ended_sim {fn : Func} {tm : List AVal} {a : Array Value} (ht : RL ρ m tm a) (h : (ended E tm fn.results.toList).run s = .ok v s') (ho : OkObs s') (hr : Rel E.P ρ m s.heap.get w) :
    ∃ x, (results fn a).run E.P w = .ok x w ∧ R ρ m v x ∧ Same s s' := by
  obtain ⟨l, s1, h1, h2⟩ := M.bind_ok h
  obtain ⟨rfl, rfl⟩ := pure_ok h2
  obtain ⟨xs, k1, k2, k3⟩ := resultOf_sim ht _ h1 ho hr
  have e : (results fn a) = (do let vs ← fn.results.mapM (resVal a); pure (if h : vs.size = 1 then vs[0] else .tuple vs)) := rfl
  rw [e, ← Array.toArray_toList (xs := fn.results), List.mapM_toArray]
  simp only [Sem.run_bind, Sem.run_map, k1, Result.andThen_ok, Sem.run_pure]
  refine ⟨_, rfl, ?_, k3⟩
  cases k2 with
  | nil => exact .tup _ _ rfl (fun i v x hv => by simp at hv)
  | cons hx ht =>
    cases ht with
    | nil => simpa [oneOrTup] using hx
    | cons hy ht =>
      rename_i a1 x1 a2 x2 l xs
      have hne : ¬ (x1 :: x2 :: xs).toArray.size = 1 := by simp
      rw [dif_neg hne]
      have hl : RV ρ m (a1 :: a2 :: l) (x1 :: x2 :: xs) := .cons hx (.cons hy ht)
      have : RL ρ m (a1 :: a2 :: l) (x1 :: x2 :: xs).toArray := hl.list
      exact .tup _ _ this.len this.at_
end
end Go.Am
