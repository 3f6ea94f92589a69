/- Code: the abstract machine does what the model does. -/
import Derived.Test.YtmoplhbncjicbaaAnB
set_option linter.unusedSimpArgs false
set_option linter.unusedVariables false
namespace Go.Am
open Go

variable {E : Env}
section
variable {ρ : Ren} {m : Mem} {s s' : St} {w : World} {v : AVal}
theorem AtEnd.still {P : Program} {o : Option Nat} {a : Act} {e : AExit} {e' : Exit} {tm : List AVal} (hr : Rel P ρ m s.heap.get w) (es : Same s s') (ht : RL ρ m tm a.tmps) (hx : RX e e') : AtEnd P ρ m s w o a e tm s' e' a w ρ [] where
  post := by rw [Mem.with_nil]; exact .of_same hr es
  tmps := by rw [Mem.with_nil]; exact ht
  ex := hx
  defers := rfl
  marks := .nil m
  inRound := fun _ => rfl
/-- One walk behind another. -/
theorem AtEnd.trans {P : Program} {o : Option Nat} {a a1 a2 : Act} {e : AExit} {e2 : AExit} {tm1 tm2 : List AVal} {s1 s2 : St} {e1 : Exit} {e2' : Exit} {w1 w2 : World} {ρ1 ρ2 : Ren} {D D' : List Nat}
    (h : AtEnd P ρ m s w o a e tm1 s1 e1 a1 w1 ρ1 D) (h' : AtEnd P ρ1 (m.with D) s1 w1 o a1 e2 tm2 s2 e2' a2 w2 ρ2 D') : AtEnd P ρ m s w o a e2 tm2 s2 e2' a2 w2 ρ2 (D' ++ D) where
  post := by
    have := h'.post
    rw [Mem.with_with] at this
    exact h.post.trans this
  tmps := by rw [← Mem.with_with]; exact h'.tmps
  ex := h'.ex
  defers := by rw [h'.defers, h.defers]; simp
  marks := h.marks.append h'.marks
  inRound := fun ho => by rw [h.inRound ho, h'.inRound ho]; rfl
theorem AtEnd.exit {P : Program} {o : Option Nat} {a a1 : Act} {e e2 : AExit} {tm1 : List AVal} {s1 : St} {e1 e2' : Exit} {w1 : World} {ρ1 : Ren} {D : List Nat}
    (h : AtEnd P ρ m s w o a e tm1 s1 e1 a1 w1 ρ1 D) (hx : RX e2 e2') : AtEnd P ρ m s w o a e2 tm1 s1 e2' a1 w1 ρ1 D := ⟨h.post, h.tmps, hx, h.defers, h.marks, h.inRound⟩
theorem AtEnd.after {P : Program} {o : Option Nat} {a a1 : Act} {e : AExit} {tm1 : List AVal} {s0 s1 : St} {e1 : Exit} {w1 : World} {ρ1 : Ren} {D : List Nat}
    (h : AtEnd P ρ m s w o a e tm1 s1 e1 a1 w1 ρ1 D) (es : Same s0 s) : AtEnd P ρ m s0 w o a e tm1 s1 e1 a1 w1 ρ1 D := ⟨h.post.after es, h.tmps, h.ex, h.defers, h.marks, h.inRound⟩

theorem seq_sim {rec : Rec} (hrec : SimC E.P rec) {fn : FuncId} {rnd : Option Nat} {x y : Code} : Sim1 E.P rnd (.seq x y) (step E rec fn rnd (.seq x y)) := by
  intro tm e tm' s s' h ho ρ m w a o n Q hr hf ht hn hQ
  obtain ⟨⟨e1, tm1⟩, s1, h1, h2, ho1, n1, n1'⟩ := M.bind_did h ho
  refine wpIn_seq (hrec fn rnd x _ _ _ s s1 h1 ho1 ρ m w a o n _ hr (hf.fst n1') ht hn (fun e' a' w' ρ' D he => ?_))
  have hex := he.ex
  cases e1 with
  | normal =>
    cases hex
    refine hrec fn rnd y _ _ _ s1 s' h2 ho ρ' (m.with D) w' a' o n Q he.post.rel (hf.snd he.post) he.tmps (hn.mono he.post.ren) (fun e2 a2 w2 ρ2 D2 he2 => ?_)
    exact hQ _ _ _ _ _ (he.trans he2)
  | ret =>
    cases hex
    obtain ⟨he1, rfl⟩ := pure_ok h2
    injection he1 with q1 q2
    subst q1; subst q2
    exact hQ _ _ _ _ _ he
  | exit j =>
    cases hex
    obtain ⟨he1, rfl⟩ := pure_ok h2
    injection he1 with q1 q2
    subst q1; subst q2
    exact hQ _ _ _ _ _ he
theorem cond_sim {rec : Rec} (hrec : SimC E.P rec) {fn : FuncId} {rnd : Option Nat} {c : Operand} {x y : Code} : Sim1 E.P rnd (.cond c x y) (step E rec fn rnd (.cond c x y)) := by
  intro tm e tm' s s' h ho ρ m w a o n Q hr hf ht hn hQ
  obtain ⟨t, s1, h1, h2, ho1, n1, n1'⟩ := M.bind_did h ho
  obtain ⟨hb, e1⟩ := branch_ok h1 ho1
  have hcv : a.eval c = .bool t := by
    have := opd_sim ht c
    rcases hb with hb | hb
    · rw [hb] at this; exact this.bool_inv
    · rw [hb] at this; exact this.blit_inv
  refine wpIn_cond hcv ?_
  cases t with
  | true => exact hrec fn rnd x _ _ _ s1 s' h2 ho ρ m w a o n Q (hr.of_same e1) (hf.of_same e1) ht hn (fun e2 a2 w2 ρ2 D2 he2 => hQ _ _ _ _ _ (he2.after e1))
  | false => exact hrec fn rnd y _ _ _ s1 s' h2 ho ρ m w a o n Q (hr.of_same e1) (hf.of_same e1) ht hn (fun e2 a2 w2 ρ2 D2 he2 => hQ _ _ _ _ _ (he2.after e1))
theorem block_sim {rec : Rec} (hrec : SimC E.P rec) {fn : FuncId} {rnd : Option Nat} {id : Nat} {c : Code} : Sim1 E.P rnd (.block id c) (step E rec fn rnd (.block id c)) := by
  intro tm e tm' s s' h ho ρ m w a o n Q hr hf ht hn hQ
  simp only [step] at h
  cases hk : chookAt E.bhooks fn id (.block id c) with
  | some act =>
    rw [hk] at h
    exact chook_ok hk rnd tm e tm' s s' h ho ρ m w a o n Q hr hf ht hn hQ
  | none =>
  rw [hk] at h
  obtain ⟨⟨e1, tm1⟩, s1, h1, h2, ho1, n1, n1'⟩ := M.bind_did h ho
  refine wpIn_block (hrec fn rnd c _ _ _ s s1 h1 ho1 ρ m w a o n _ hr (hf.fst n1') ht hn (fun e' a' w' ρ' D he => ?_))
  have hex := he.ex
  cases e1 with
  | normal =>
    cases hex
    obtain ⟨he1, rfl⟩ := pure_ok h2
    injection he1 with q1 q2
    subst q1; subst q2
    exact hQ _ _ _ _ _ he
  | ret =>
    cases hex
    obtain ⟨he1, rfl⟩ := pure_ok h2
    injection he1 with q1 q2
    subst q1; subst q2
    exact hQ _ _ _ _ _ he
  | exit j =>
    cases hex
    simp only at h2
    simp only [Exit.inBlock]
    split at h2
    · rename_i hb
      rw [if_pos (Nat.eq_of_beq_eq_true hb)]
      obtain ⟨he1, rfl⟩ := pure_ok h2
      injection he1 with q1 q2
      subst q1; subst q2
      exact hQ _ _ _ _ _ (he.exit .normal)
    · rename_i hb
      rw [if_neg (Nat.ne_of_beq_eq_false hb)]
      obtain ⟨he1, rfl⟩ := pure_ok h2
      injection he1 with q1 q2
      subst q1; subst q2
      exact hQ _ _ _ _ _ he
theorem scope_sim {rec : Rec} (hrec : SimC E.P rec) {fn : FuncId} {rnd : Option Nat} {c : Code} : Sim1 E.P rnd (.scope c) (step E rec fn rnd (.scope c)) := by
  intro tm e tm' s s' h ho ρ m w a o n Q hr hf ht hn hQ
  refine wpIn_scope_straight (hrec fn rnd c _ _ _ s s' h ho ρ m w a o n _ hr hf ht hn (fun e' a' w' ρ' D he => ?_))
  have hex := he.ex
  cases hex <;> exact hQ _ _ _ _ _ he
theorem forgetL_sim {ρ : Ren} {m : Mem} : ∀ (k : List Bool) (tm : List AVal), (forgetL k tm).length = tm.length ∧ ∀ (i : Nat) v, (forgetL k tm)[i]? = some v → v = .junk ∨ tm[i]? = some v := by
  intro k
  induction k with
  | nil => intro tm; exact ⟨rfl, fun i v h => .inr h⟩
  | cons b k ih =>
    intro tm
    cases tm with
    | nil => exact ⟨rfl, fun i v h => .inr h⟩
    | cons a tm =>
      obtain ⟨h1, h2⟩ := ih tm
      refine ⟨by simp [forgetL, h1], fun i v h => ?_⟩
      cases i with
      | zero =>
        simp only [forgetL, List.getElem?_cons_zero] at h ⊢
        injection h with h
        cases b with
        | true => exact .inr (by rw [← h])
        | false => exact .inl h.symm
      | succ i =>
        simp only [forgetL, List.getElem?_cons_succ] at h ⊢
        exact h2 i v h
theorem forget_sim {ρ : Ren} {m : Mem} {fn : FuncId} {tm : List AVal} {c : Array Value} (h : RL ρ m tm c) : RL ρ m (forget E fn tm) c := by
  unfold forget
  split
  · exact h
  · rename_i k _
    obtain ⟨h1, h2⟩ := forgetL_sim (ρ := ρ) (m := m) k tm
    refine ⟨by rw [h1]; exact h.len, fun i v x hv hx => ?_⟩
    rcases h2 i v hv with rfl | hv
    · exact .junk x
    · exact h.at_ i v x hv hx
theorem region_sim {rec : Rec} (hrec : SimC E.P rec) {fn : FuncId} {rnd : Option Nat} {id : Nat} {ops : Array Oper} : Sim1 E.P rnd (.region id ops false) (step E rec fn rnd (.region id ops false)) := by
  intro tm e tm' s s' h ho ρ m w a o n Q hr hf ht hn hQ
  obtain ⟨tm1, s1, h1, h2⟩ := M.bind_ok h
  obtain ⟨he1, rfl⟩ := pure_ok h2
  injection he1 with q1 q2
  subst q1; subst q2
  refine wpIn_region_list (evalOps_sim hrec ops.toList h1 ho hr hf ht (fun a' w' ρ' hp ht' hd => hQ _ _ _ ρ' [] ⟨?_, ?_, .normal, hd, .nil m, fun _ => rfl⟩))
  · rw [Mem.with_nil]; exact hp
  · rw [Mem.with_nil]; exact forget_sim ht'
theorem loop_sim {F : Nat → Rec} {c : Code} {fn : FuncId} {rnd : Option Nat} {k : Nat} (hz : ∀ tm e tm' s s', (F 0 fn rnd (.loop c) tm).run s ≠ .ok (e, tm') s') (hs : ∀ j, j < k → F (j + 1) fn rnd (.loop c) = step E (F j) fn rnd (.loop c))
    (hF : ∀ j, j < k → Sim1 E.P rnd c (F j fn rnd c)) : Sim1 E.P rnd (.loop c) (F k fn rnd (.loop c)) := by
  intro tm e tm' s s' h ho ρ m w a o n Q hr hf ht hn hQ
  let I : Nat → Act → World → Prop := fun j a1 w1 => j ≤ k ∧ ∃ tm1 s1 ρ1 D1, (F j fn rnd (.loop c) tm1).run s1 = .ok (e, tm') s' ∧ AtEnd E.P ρ m s w o a .normal tm1 s1 .normal a1 w1 ρ1 D1
  refine wpIn_loop_ind I (fun a1 w1 hI => ?_) (fun j a1 w1 hI => ?_) k ⟨Nat.le_refl _, tm, s, ρ, [], h, .still hr (.refl _) ht .normal⟩
  · obtain ⟨_, tm1, s1, _, _, h1, _⟩ := hI
    exact hz _ _ _ _ _ h1
  · obtain ⟨hj, tm1, s1, ρ1, D1, h1, he1⟩ := hI
    rw [hs j (by omega)] at h1
    obtain ⟨⟨e2, tm2⟩, s2, h2, h3, ho2, n2, n2'⟩ := M.bind_did h1 ho
    refine hF j (by omega) _ _ _ s1 s2 h2 ho2 ρ1 (m.with D1) w1 a1 o n _ he1.post.rel ((hf.snd he1.post).fst n2') he1.tmps (hn.mono he1.post.ren) (fun e' a' w' ρ' D he => ?_)
    have hex := he.ex
    cases e2 with
    | normal =>
      cases hex
      exact ⟨by omega, tm2, s2, ρ', _, h3, he1.trans he⟩
    | ret =>
      cases hex
      obtain ⟨hq, rfl⟩ := pure_ok h3
      injection hq with q1 q2
      subst q1; subst q2
      exact hQ _ _ _ _ _ (he1.trans he)
    | exit j =>
      cases hex
      obtain ⟨hq, rfl⟩ := pure_ok h3
      injection hq with q1 q2
      subst q1; subst q2
      exact hQ _ _ _ _ _ (he1.trans he)

/-! ### A range over a function -/
theorem rangeK_ok {id : Nat} {tm tm' : List AVal} {e : AExit} (h : (rangeK id tm).run s = .ok (e, tm') s') (hr : Rel E.P ρ m s.heap.get w) {r : RB} (hρ : ρ id = some r) :
    tm' = tm ∧ ∃ jump w', (Instr.endLoop r.b).run E.P w = .ok jump w' ∧ jump = jumpOf e ∧ Post E.P ρ m s w ρ m s' w' := by
  obtain ⟨b, s1, h1, h2⟩ := M.bind_ok h
  obtain ⟨hg, e1⟩ := get_ok h1
  obtain ⟨l, rfl, h3⟩ := loopK_ok h2
  obtain ⟨L, q1, q2, q3, q4, q5, q6, q7⟩ := hr.loop hg hρ
  have hg1 : s1.heap.get id = some (.loop l) := by rw [e1.heap]; exact hg
  have main : l.state ≠ .busy → ((setB id (.loop { l with state := .exhausted })).bind fun _ => match l.pending with
      | none => M.pure (AExit.normal, tm)
      | some c => match c with
        | .ret => M.pure (.ret, tm)
        | .exit j => M.pure (.exit j, tm)
        | _ => fail "pending").run s1 = .ok (e, tm') s' → tm' = tm ∧ ∃ jump w', (Instr.endLoop r.b).run E.P w = .ok jump w' ∧ jump = jumpOf e ∧ Post E.P ρ m s w ρ m s' w' := by
    intro hst h4
    obtain ⟨_, s2, h5, h6⟩ := M.bind_ok h4
    obtain ⟨_, hn2, hset⟩ := set_ok h5
    have hp : Post E.P ρ m s1 w ρ m s2 (World.upd w r.b (.loop { L with state := .exhausted })) :=
      .upd (hr.of_same e1) hg1 hρ (.loop r { l with state := .exhausted } _ rfl q3 q4 q5 q6 q7) hn2 hset
    have hp' := hp.after e1
    have hrun : (Instr.endLoop r.b).run E.P w = .ok L.pending (World.upd w r.b (.loop { L with state := .exhausted })) := by
      have hb : (L.state == .busy) = false := by rw [q2]; cases hs : l.state <;> first | rfl | exact absurd hs hst
      simp only [Instr.endLoop, Sem.run_bind, run_getLoop q1, Result.andThen_ok, hb, Bool.false_eq_true, if_false, run_setObj_upd q1 (fun _ _ _ h => by cases h), Sem.run_pure]
    generalize hw : World.upd w r.b (.loop { L with state := .exhausted }) = wx at hrun hp'
    rw [q3] at hrun
    cases hpd : l.pending with
    | none =>
      rw [hpd] at h6 hrun
      obtain ⟨hq, rfl⟩ := pure_ok h6
      injection hq with a1 a2
      subst a1; subst a2
      exact ⟨rfl, _, _, hrun, rfl, hp'⟩
    | some c =>
      rw [hpd] at h6 hrun
      simp only at h6
      split at h6
      · obtain ⟨hq, rfl⟩ := pure_ok h6
        injection hq with a1 a2
        subst a1; subst a2
        exact ⟨rfl, _, _, hrun, rfl, hp'⟩
      · obtain ⟨hq, rfl⟩ := pure_ok h6
        injection hq with a1 a2
        subst a1; subst a2
        exact ⟨rfl, _, _, hrun, rfl, hp'⟩
      · exact (fail_ok h6).elim
  split at h3
  · exact (fail_ok h3).elim
  · rename_i hst
    exact main (fun hh => hst hh) h3
theorem rangeFunc_sim {rec : Rec} (hrec : SimC E.P rec) {fn : FuncId} {rnd : Option Nat} {f : Operand} {ps : Array Tmp} {assign body : Code} : Sim1 E.P rnd (.rangeFunc f ps assign body) (step E rec fn rnd (.rangeFunc f ps assign body)) := by
  intro tm e tm' s s' h ho ρ m w a o n Q hr hf ht hn hQ
  have hfv := opd_sim ht f
  simp only [step] at h
  split at h
  case h_2 => exact (fail_ok h).elim
  rename_i g first cap hfe
  rw [hfe] at hfv
  split at h
  case h_2 => exact (fail_ok h).elim
  rename_i gf
  split at h
  case h_2 => exact (fail_ok h).elim
  rename_i hb
  have hfok := (E.funcs.find gf).ok
  rw [Nat.eq_of_beq_eq_true hb] at hfok
  obtain ⟨_, s1, h1, h2, ho1, n1, n1'⟩ := M.bind_did h ho
  obtain ⟨id, s2, h3, h4, ho2, n2, n2'⟩ := M.bind_did h2 ho
  obtain ⟨rv, s3, h5, h6, ho3, n3, n3'⟩ := M.bind_did h4 ho
  cases hvf : a.eval f with
  | func g' first' cap' =>
    rw [hvf] at hfv
    cases hfv with
    | fn _ _ _ _ _ _ hg hxl hyl hxa hya =>
    cases hg
    -- the record, and the block for deferred calls
    have enter : Same s s1 ∧ ∃ D w0, Marks m D ∧ (o ≠ none → D = []) ∧ Fr w w0 ∧ Rel E.P ρ (m.with D) s1.heap.get w0 ∧
        ∀ fn' : FuncId, ∃ L, (Instr.enterLoop fn' a.tmps ps assign body o).run E.P w = .ok (w0.heap.size, D.map mk) (w0.alloc (.loop L)) ∧ L.state = .ready ∧ L.pending = none ∧ L.tmps = a.tmps ∧ L.params = ps ∧ L.assign = assign ∧ L.body = body := by
      cases hn with
      | none =>
        obtain ⟨_, rfl⟩ := pure_ok h1
        refine ⟨.refl _, [w.heap.size], w.alloc (.deferred (some [])), ⟨by simp, fun r hr' => ?_⟩, fun h => absurd rfl h, .alloc _ _, ?_, fun fn' => ?_⟩
        · have : r = w.heap.size := by simpa using hr'
          subst this
          cases hm : m w.heap.size with
          | none => rfl
          | some q => have := lt_of_heap (hr.mem _ _ hm); omega
        · have hm0 : m w.heap.size = none := by
            cases hm : m w.heap.size with
            | none => rfl
            | some q => have := lt_of_heap (hr.mem _ _ hm); omega
          refine ⟨fun i b hb => ?_, hr.inj, fun b ob hb => ?_⟩
          · obtain ⟨rb, ob, q1, q2, q3, q4⟩ := hr.live i b hb
            have hlt := lt_of_heap q2
            refine ⟨rb, ob, q1, ?_, q3.mono (.refl ρ) (Mem.le_with (by simpa using hm0)), ?_⟩
            · rw [alloc_get, if_neg (by omega)]; exact q2
            · unfold Mem.with; rw [if_neg (by simp; omega)]; exact q4
          · unfold Mem.with at hb
            by_cases hd : b = w.heap.size
            · subst hd
              rw [if_pos (by simp)] at hb
              injection hb with hb
              subst hb
              rw [alloc_get, if_pos rfl]
            · rw [if_neg (by simpa using hd)] at hb
              rw [alloc_get, if_neg hd]
              exact hr.mem b ob hb
        · refine ⟨{ state := .ready, pending := none, fn := fn', tmps := a.tmps, params := ps, assign, body, defers := w.heap.size }, ?_, rfl, rfl, rfl, rfl, rfl, rfl⟩
          · simp only [Instr.enterLoop, Sem.run_bind, run_newObj_alloc, Result.andThen_ok, Sem.run_pure]
            rfl
      | some id0 r hid =>
        obtain ⟨b, s0, k1, k2⟩ := M.bind_ok h1
        obtain ⟨hg, e1⟩ := get_ok k1
        obtain ⟨l, rfl, k3⟩ := loopK_ok k2
        obtain ⟨_, rfl⟩ := pure_ok k3
        obtain ⟨L, q1, _⟩ := hr.loop hg hid
        refine ⟨e1, [], w, .nil m, fun _ => rfl, .refl w, by rw [Mem.with_nil]; exact hr.of_same e1, fun fn' => ⟨{ state := .ready, pending := none, fn := fn', tmps := a.tmps, params := ps, assign, body, defers := L.defers }, ?_, rfl, rfl, rfl, rfl, rfl, rfl⟩⟩
        · simp only [Instr.enterLoop, Sem.run_bind, run_getLoop q1, run_newObj_alloc, Result.andThen_ok, Sem.run_pure]
          rfl
    obtain ⟨e1, D, w0, hD, hD0, hfr, hr0, henter⟩ := enter
    have hmle : MLe m (m.with D) := Mem.le_with hD.none
    refine wpIn_rangeFunc (fun fn' _ => ?_)
    obtain ⟨L, hrun, l1, l2, l3, l4, l5, l6⟩ := henter fn'
    have hf1 := hf.of_same e1
    have hf12 : Fresh ρ s1 s2 := hf1.fst (by omega)
    obtain ⟨_, hp⟩ := newObj_sim h3 hr0 hf12 (.loop L) 0 0 (fun ρ' hle => .loop _ _ L l1 l2 (by rw [l3]; exact ht.mono hle hmle) (by rw [l4]) l5 l6)
    have hid : (ρ.put id ⟨w0.heap.size, 0, 0⟩) id = some ⟨w0.heap.size, 0, 0⟩ := by simp [Ren.put]
    have hargs : RL (ρ.put id ⟨w0.heap.size, 0, 0⟩) (m.with D) (first ++ [AVal.fn (.yield id) [] []] ++ cap) (first' ++ #[.func (.yield w0.heap.size) #[] #[]] ++ cap') := by
      have hy : RL (ρ.put id ⟨w0.heap.size, 0, 0⟩) (m.with D) [AVal.fn (.yield id) [] []] #[.func (.yield w0.heap.size) #[] #[]] := by
        refine ⟨rfl, fun i v x hv hx => ?_⟩
        cases i with
        | zero =>
          simp at hv hx
          subst hv; subst hx
          exact .fn _ _ _ _ _ _ (.yield id ⟨w0.heap.size, 0, 0⟩ hid) rfl rfl (fun i v u hv => by simp at hv) (fun i v u hv => by simp at hv)
        | succ i => simp at hv
      exact ((RL.mono hp.ren hmle ⟨hxl, hxa⟩).append hy).append (RL.mono hp.ren hmle ⟨hyl, hya⟩)
    have hf2 : Fresh (ρ.put id ⟨w0.heap.size, 0, 0⟩) s2 s' := hf1.snd hp
    have hcall := callF_sim hrec gf _ s2 rv s3 h5 ho3 _ _ _ _ hp.rel (hf2.fst n3') hargs
    refine ⟨w0.heap.size, D.map mk, w0.alloc (.loop L), { target := .fn (.func gf) cap', args := first' ++ #[.func (.yield w0.heap.size) #[] #[]] }, w0.alloc (.loop L), gf, first' ++ #[.func (.yield w0.heap.size) #[] #[]] ++ cap', w0.alloc (.loop L), hrun, ?_, fun _ _ => trivial, ?_, Fw.depth _, ?_⟩
    · have : (#[Operand.const (.func (.yield w0.heap.size) #[] #[])] : Array Operand).map a.eval = #[.func (.yield w0.heap.size) #[] #[]] := by simp [Act.eval]
      simp only [resolve, rangeCall, hvf, Deferred.ofValue, this, Sem.run_pure]
    · simp only [invoke]; exact hfok.call _ _
    · rcases hcall with ⟨_, hc⟩ | ⟨x, w', he, _⟩
      · refine Fw.calls (hc.mono (fun e' w' hh => ?_))
        obtain ⟨x, rfl, ρ', hp3, _⟩ := hh
        have hp03 := hp.trans hp3
        obtain ⟨rfl, jump, w4, k1, k2, k3⟩ := rangeK_ok h6 hp3.rel (hp3.ren _ _ hid)
        have hfin : ∀ e', RX e e' → Q e' { a with defers := D.map mk ++ a.defers } w4 := fun e' hx => by
          have hpa := (hp03.trans k3).after e1
          refine hQ e' { a with defers := D.map mk ++ a.defers } w4 ρ' D ⟨⟨hpa.ren, hpa.new, fun b ob hb => ?_, hpa.rel, hfr.trans hpa.fr, hpa.next⟩, ht.mono hpa.ren hmle, hx, rfl, hD, hD0⟩
          have : b ∉ D := fun hd => by rw [hD.none b hd] at hb; cases hb
          unfold Mem.with; rw [if_neg this]; exact hb
        refine ⟨jump, w4, k1, ?_⟩
        subst k2
        cases e with
        | normal => exact hfin _ .normal
        | ret => exact wpIn_ret (hfin _ .ret)
        | exit j => exact wpIn_exit (hfin _ (.exit j))
      · rw [hfok.call] at he
        injection he with he
        cases he
  | _ => rw [hvf] at hfv; cases hfv
end
end Go.Am
