/- Calls of functions and of a loop's body: the abstract machine does what the model does. -/
import Derived.Test.YtmoplhbncjicbaaAnA
set_option linter.unusedSimpArgs false
set_option linter.unusedVariables false
namespace Go.Am
open Go

variable {E : Env}
section
variable {ρ : Ren} {m : Mem} {s s' : St} {w : World} {v : AVal}
theorem RL.undefs (k : Nat) : RL ρ m (List.replicate k undef) (Array.replicate k Go.undef) := by
  refine ⟨by simp, fun i v x hv hx => ?_⟩
  simp only [List.getElem?_replicate, Array.getElem?_replicate] at hv hx
  split at hv
  · simp only [Option.some.injEq] at hv
    rename_i hi
    rw [if_pos hi] at hx
    simp only [Option.some.injEq] at hx
    subst hv; subst hx
    exact undef_sim
  · cases hv
theorem Post.dropped {P : Program} {ρ' : Ren} {D : List Nat} {s1 : St} {w1 w2 : World} (h : Post P ρ m s w ρ' (m.with D) s1 w1) (hr : Rel P ρ' m s1.heap.get w2) (hfr : Fr w1 w2) (e : Same s1 s') : Post P ρ m s w ρ' m s' w2 where
  ren := h.ren
  new := fun id hid => (h.new id hid).imp_right fun x => ⟨x.1, by rw [e.next]; exact x.2⟩
  mem := fun _ _ h => h
  rel := hr.of_same e
  fr := h.fr.trans hfr
  next := by rw [e.next]; exact h.next
theorem callI_sim {rec : Rec} (hrec : SimC E.P rec) (f : FuncId) : SimCall E.P f (callI E rec f) := by
  intro args s v s' h ho ρ m w xs hr hf hx
  unfold callI at h
  split at h
  · rename_i hb
    have hfok := (E.funcs.find f).ok
    rw [Nat.eq_of_beq_eq_true hb] at hfok
    obtain ⟨fn, h1, h2, h3, h4⟩ := hfok.fn
    obtain ⟨r, s1, k1, k2, ho1, n1, n2⟩ := M.bind_did h ho
    obtain ⟨e, tm'⟩ := r
    refine .inl ⟨hfok.call xs w, (callsIn_wide (n := 0)).1 (callsIn_of_wp_marks (F := Fw none) h1 h2 trivial ?_)⟩
    refine hrec f none _ _ _ _ s s1 k1 ho1 ρ m w { tmps := xs ++ Array.replicate (fn.ntmps - xs.size) Go.undef, defers := [] } none 0 _ hr (hf.fst n2) ?_ .none ?_
    · have : RL ρ m (args ++ List.replicate ((E.funcs.find f).i.ntmps - args.length) undef) (xs ++ Array.replicate (fn.ntmps - xs.size) Go.undef) := by
        rw [h3, hx.len]
        exact hx.append (RL.undefs _)
      exact this
    · intro e' a' w' ρ' D he
      have fin : ∀ (k2 : (ended E tm' (E.funcs.find f).i.results).run s1 = .ok v s'), LeavesInM (Fw none) 0 E.P fn a'.tmps (fun e w' => ∃ v_1, e = .returned v_1 ∧ ∃ ρ', Post E.P ρ m s w ρ' m s' w' ∧ R ρ' m v v_1) a'.defers .returning w' := by
        intro k2
        have hd := he.defers
        rw [List.append_nil] at hd
        rw [hd]
        refine leaves D w' he.post.rel he.marks (fun w'' hr'' hfr => ?_)
        rw [← h4] at k2
        obtain ⟨x, q1, q2, q3⟩ := ended_sim (he.tmps.mono (.refl _) Mem.with_le) k2 ho hr''
        exact ⟨x, q1, x, rfl, ρ', he.post.dropped hr'' hfr q3, q2⟩
      have hex := he.ex
      cases e with
      | normal => cases hex; exact fin k2
      | ret => cases hex; exact fin k2
      | exit id => exact (fail_ok k2).elim
  · exact (fail_ok h).elim
theorem hookAt_ok : ∀ (l : List (Hook E.P)) {f : FuncId} {args : List AVal} {k : M AVal}, (hookAt E l f args k).run s = .ok v s' → (∃ h ∈ l, h.f = f ∧ (h.act args).run s = .ok v s') ∨ k.run s = .ok v s'
  | [], _, _, _, h => .inr h
  | q :: l, f, args, k, h => by
    unfold hookAt at h
    split at h
    · rename_i hb
      exact .inl ⟨q, List.mem_cons_self, Nat.eq_of_beq_eq_true hb, h⟩
    · rcases hookAt_ok l h with ⟨q', hm, he, hr⟩ | h
      · exact .inl ⟨q', List.mem_cons_of_mem _ hm, he, hr⟩
      · exact .inr h
theorem callF_sim {rec : Rec} (hrec : SimC E.P rec) (f : FuncId) : SimCall E.P f (callF E rec f) := by
  intro args s v s' h ho ρ m w xs hr hf hx
  rcases hookAt_ok E.hooks h with ⟨q, _, rfl, hq⟩ | h
  · exact q.ok args s v s' hq ho ρ m w xs hr hf hx
  · exact callI_sim hrec f args s v s' h ho ρ m w xs hr hf hx

/-! ### Rounds -/
theorem Rel.loop {P : Program} {h : Nat → Option Blk} (hr : Rel P ρ m h w) {id : Nat} {l : ALoop} (hg : h id = some (.loop l)) {r : RB} (hρ : ρ id = some r) :
    ∃ L, w.heap[r.b]? = some (.loop L) ∧ L.state = l.state ∧ L.pending = l.pending ∧ RL ρ m l.tmps L.tmps ∧ L.params.toList = l.params ∧ L.assign = l.assign ∧ L.body = l.body := by
  obtain ⟨rb, o, h1, h2, h3, h4⟩ := hr.live id _ hg
  rw [hρ] at h1
  injection h1 with h1
  subst h1
  cases h3 with
  | loop l L a b c d e f => exact ⟨L, h2, a, b, c, d, e, f⟩
theorem run_getLoop {P : Program} {b : Nat} {L : Loop} (h : w.heap[b]? = some (.loop L)) : (Instr.getLoop b).run P w = .ok L w := by
  simp only [Instr.getLoop, Sem.run_bind, run_getObj_at h (fun _ _ _ h => by cases h), Result.andThen_ok, Sem.run_pure]
theorem Post.upd {P : Program} (hr : Rel P ρ m s.heap.get w) {id : Nat} {b0 b : Blk} {o : Obj} {r : RB} (hg : s.heap.get id = some b0) (hρ : ρ id = some r) (hb : BR P ρ m r b o) (hn : s'.next = s.next)
    (hh : ∀ j, s'.heap.get j = if j = id then some b else s.heap.get j) : Post P ρ m s w ρ m s' (World.upd w r.b o) where
  ren := .refl ρ
  new := fun _ h => .inl h
  mem := fun _ _ h => h
  rel := hr.upd hg hρ hb hh
  fr := World.upd_fr _ _ _
  next := by omega
theorem putAll_sim : ∀ (ps : List (Tmp × AVal)) (qs : List (Tmp × Value)) (tm : List AVal) (a : Array Value), RL ρ m tm a → ps.map (·.1) = qs.map (·.1) → RV ρ m (ps.map (·.2)) (qs.map (·.2)) →
    RL ρ m (putAll tm ps) (qs.foldl (fun tmps (t, a) => tmps.setIfInBounds t a) a)
  | [], [], tm, a, h, _, _ => h
  | [], q :: qs, tm, a, h, h1, _ => by simp at h1
  | p :: ps, [], tm, a, h, h1, _ => by simp at h1
  | (t, v) :: ps, (t', x) :: qs, tm, a, h, h1, h2 => by
    simp only [List.map_cons, List.cons.injEq] at h1
    obtain ⟨rfl, h1⟩ := h1
    cases h2 with
    | cons hv h2 => exact putAll_sim ps qs _ _ (put_sim (a := ⟨a, []⟩) h (some t) hv) h1 h2
theorem RV.length {l : List AVal} {xs : List Value} (h : RV ρ m l xs) : l.length = xs.length := by
  induction h with
  | nil => rfl
  | cons _ _ ih => simp [ih]
theorem yieldTo_sim {rec : Rec} (hrec : SimC E.P rec) {id : Nat} {args : List AVal} (h : (yieldTo rec id args).run s = .ok v s') (ho : OkObs s') (hr : Rel E.P ρ m s.heap.get w) (hf : Fresh ρ s s') {xs : Array Value} (hx : RL ρ m args xs)
    {r : RB} (hρ : ρ id = some r) (o : Option Nat) (n : Nat) :
    ∃ f tmps assign body, (Instr.yield r.b xs).run E.P w = .ok (.round r.b f tmps assign body) w ∧ RoundIn (Fw o) n E.P r.b f tmps assign body w fun e w' => ∃ x, e = .returned x ∧ ∃ ρ', Post E.P ρ m s w ρ' m s' w' ∧ R ρ' m v x := by
  obtain ⟨b, s1, h1, h2, ho1, _, n1⟩ := M.bind_did h ho
  obtain ⟨hg, e1⟩ := get_ok h1
  obtain ⟨l, rfl, h3⟩ := loopK_ok h2
  split at h3
  · exact (fail_ok h3).elim
  rename_i hlen
  split at h3
  case h_2 => exact (fail_ok h3).elim
  rename_i hst
  obtain ⟨⟨e, tm1⟩, s2, h4, h5, ho2, n2, n2'⟩ := M.bind_did h3 ho
  cases e with
  | ret => exact (fail_ok h5).elim
  | exit j => exact (fail_ok h5).elim
  | normal =>
  obtain ⟨b2, s3, h6, h7, ho3, n3, n3'⟩ := M.bind_did h5 ho
  obtain ⟨hg2, e3⟩ := get_ok h6
  obtain ⟨l2, rfl, h8⟩ := loopK_ok h7
  split at h8
  case h_2 => exact (fail_ok h8).elim
  rename_i hst2
  obtain ⟨_, s4, h9, h10, ho4, n4, n4'⟩ := M.bind_did h8 ho
  obtain ⟨⟨e2, tm2⟩, s5, h11, h12, ho5, n5, n5'⟩ := M.bind_did h10 ho
  obtain ⟨b3, s6, h13, h14, ho6, n6, n6'⟩ := M.bind_did h12 ho
  obtain ⟨hg3, e6⟩ := get_ok h13
  obtain ⟨l3, rfl, h15⟩ := loopK_ok h14
  obtain ⟨_, s7, h16, h17⟩ := M.bind_ok h15
  obtain ⟨rfl, rfl⟩ := pure_ok h17
  obtain ⟨L, q1, q2, q3, q4, q5, q6, q7⟩ := hr.loop hg hρ
  have hpl : L.params.size = xs.size := by
    have := Nat.eq_of_beq_eq_true hlen
    rw [← hx.len, this, ← q5]; simp
  refine ⟨L.fn, (L.params.zip xs).foldl (fun tmps (t, a) => tmps.setIfInBounds t a) L.tmps, L.assign, L.body, ?_, roundIn_of_wpIn (F := Fw o) trivial ?_⟩
  · have hne : ¬ xs.size ≠ L.params.size := fun h => h hpl.symm
    simp only [Instr.yield, Sem.run_bind, run_getLoop q1, Result.andThen_ok, hne, if_false, Sem.run_pure]
  · have hr1 := hr.of_same e1
    have hf1 := hf.of_same e1
    rw [← q6] at h4
    have ht0 : RL ρ m (putAll l.tmps (l.params.zip args)) ((L.params.zip xs).foldl (fun tmps (t, a) => tmps.setIfInBounds t a) L.tmps) := by
      rw [← Array.foldl_toList, Array.toList_zip, q5]
      have hv := RV.array hx
      have hl : l.params.length = args.length := (Nat.eq_of_beq_eq_true hlen).symm
      have hl' : l.params.length = xs.toList.length := by rw [hl, hv.length]
      exact putAll_sim _ _ _ _ q4 (by rw [List.map_fst_zip (by omega), List.map_fst_zip (by omega)]) (by rw [List.map_snd_zip (by omega), List.map_snd_zip (by omega)]; exact hv)
    refine hrec l.fn (some id) _ _ _ _ s1 s2 h4 ho2 ρ m w { tmps := _, defers := [] } (some r.b) n _ hr1 (hf1.fst n2') ht0 (.some id r hρ) ?_
    intro e' a1 w1 ρ1 D he
    have hD := he.inRound (by simp)
    subst hD
    have hex := he.ex
    cases hex
    have hp1 := he.post
    rw [Mem.with_nil] at hp1
    have ht1 := he.tmps
    rw [Mem.with_nil] at ht1
    have hρ1 := hp1.ren id r hρ
    have hr3 := hp1.rel.of_same e3
    have hg2' : s3.heap.get id = some (.loop l2) := by rw [e3.heap]; exact hg2
    obtain ⟨L2, g1, g2, g3, g4, g5, g6, g7⟩ := hp1.rel.loop hg2 hρ1
    obtain ⟨_, hn4, hset4⟩ := set_ok h9
    refine ⟨World.upd w1 r.b (.loop { L2 with state := .busy }), ?_, ?_⟩
    · have : L2.state = .ready := by rw [g2, hst2]
      simp only [Instr.beginRound, Sem.run_bind, run_getLoop g1, Result.andThen_ok, run_setObj_upd g1 (fun _ _ _ h => by cases h), this, Sem.run_pure]
    · have hp4 : Post E.P ρ1 m s3 w1 ρ1 m s4 (World.upd w1 r.b (.loop { L2 with state := .busy })) :=
        .upd hr3 hg2' hρ1 (.loop r { l2 with state := .busy } _ rfl g3 g4 g5 g6 g7) hn4 hset4
      have hp14 : Post E.P ρ m s w ρ1 m s4 (World.upd w1 r.b (.loop { L2 with state := .busy })) := (hp1.after e1).trans (hp4.after e3)
      have hbody : L.body = l.body := q7
      rw [← hbody] at h11
      refine hrec l.fn (some id) _ _ _ _ s4 s5 h11 ho5 ρ1 m _ a1 (some r.b) n _ hp4.rel ((hf.snd hp14).fst (by omega)) ht1 (.some id r hρ1) ?_
      intro e2' a2 w2 ρ2 D2 he2
      have hD2 := he2.inRound (by simp)
      subst hD2
      have hp5 := he2.post
      rw [Mem.with_nil] at hp5
      have hρ2 := hp5.ren id r hρ1
      have hr6 := hp5.rel.of_same e6
      have hg3' : s6.heap.get id = some (.loop l3) := by rw [e6.heap]; exact hg3
      obtain ⟨L3, k1, k2, k3, k4, k5, k6, k7⟩ := hp5.rel.loop hg3 hρ2
      obtain ⟨_, hn7, hset7⟩ := set_ok h16
      have hrun : ∀ j : Option Code, (Instr.endRound r.b j).run E.P w2 = .ok (.bool j.isNone) (World.upd w2 r.b (.loop { L3 with state := if j.isNone then .ready else .done, pending := j })) := fun j => by
        simp only [Instr.endRound, Sem.run_bind, run_getLoop k1, Result.andThen_ok, run_setObj_upd k1 (fun _ _ _ h => by cases h), Sem.run_pure]
      have hfin : ∀ j : Option Code, jumpOf e2 = j → j.isNone = normB e2 → ∃ x, Ending.returned (.bool j.isNone) = .returned x ∧
          ∃ ρ', Post E.P ρ m s w ρ' m s' (World.upd w2 r.b (.loop { L3 with state := if j.isNone then .ready else .done, pending := j })) ∧ R ρ' m (.blit (normB e2)) x := by
        intro j hj hjn
        refine ⟨_, rfl, ρ2, ?_, hjn ▸ .blit _⟩
        have hp7 : Post E.P ρ2 m s6 w2 ρ2 m s' (World.upd w2 r.b (.loop { L3 with state := if j.isNone then .ready else .done, pending := j })) := by
          refine .upd hr6 hg3' hρ2 (.loop r { l3 with state := (match normB e2 with | true => .ready | false => .done), pending := jumpOf e2 } _ ?_ hj.symm k4 k5 k6 k7) hn7 hset7
          simp only [hjn]
          cases normB e2 <;> rfl
        exact hp14.trans (hp5.trans (hp7.after e6))
      have hex2 := he2.ex
      cases hex2 with
      | normal => exact ⟨_, _, hrun none, hfin none rfl rfl⟩
      | ret => exact ⟨_, _, hrun (some .ret), hfin (some .ret) rfl rfl⟩
      | exit j => exact ⟨_, _, hrun (some (.exit j)), hfin (some (.exit j)) rfl rfl⟩

/-! ### Operations -/
theorem op_sim {rec : Rec} (hrec : SimC E.P rec) {o : Oper} {tm : List AVal} {a : Act} (h : (execOp E rec tm o.op).run s = .ok v s') (ho : OkObs s') (hr : Rel E.P ρ m s.heap.get w) (hf : Fresh ρ s s') (ht : RL ρ m tm a.tmps)
    {ro : Option Nat} {n : Nat} {next : Act → World → Prop} {Q : Exit → Act → World → Prop} (hk : ∀ x w' ρ', Post E.P ρ m s w ρ' m s' w' → R ρ' m v x → next (a.put o.dst x) w') : o.wpIn (Fw ro) n E.P a w next Q := by
  refine ⟨fun _ _ => trivial, ?_⟩
  have hsem : o.semAt (Fw ro).round a.eval = Go.execOp a.eval o := by
    refine Oper.semAt_eq _ _ _ (fun c hc => ?_)
    rw [hc] at h
    exact (fail_ok h).elim
  rw [hsem]
  by_cases hcall : ∃ c f, o.op = .call c ∧ c.callee = .value f
  · obtain ⟨c, f, hoc, hcf⟩ := hcall
    obtain ⟨dst, op, type, pos, after, guard⟩ := o
    simp only at hoc
    subst hoc
    obtain ⟨callee, cargs, ctys⟩ := c
    simp only at hcf
    subst hcf
    have h : (callV E rec (opd tm f) (opds tm cargs.toList)).run s = .ok v s' := h
    have hfv := opd_sim ht f
    have hav := opds_sim ht cargs
    unfold callV at h
    split at h
    · rename_i g first cap hfe
      rw [hfe] at hfv
      cases hvf : a.eval f with
      | func g' first' cap' =>
        rw [hvf] at hfv
        cases hfv with
        | fn _ _ _ _ _ _ hg hxl hyl hxa hya =>
        split at h
        · rename_i gf
          cases hg
          have hargs : RL ρ m (first ++ opds tm cargs.toList ++ cap) (first' ++ cargs.map a.eval ++ cap') := (RL.append ⟨hxl, hxa⟩ hav).append ⟨hyl, hya⟩
          have := callF_sim hrec gf _ s v s' h ho ρ m w _ hr hf hargs
          have hrun : (Go.execOp a.eval { dst, op := .call { callee := .value f, args := cargs, argTypes := ctys }, type, pos, after, guard }).run E.P w = (callFunc gf (first' ++ cargs.map a.eval ++ cap')).run E.P w := by
            simp only [Go.execOp, resolve, hvf, Deferred.ofValue, Sem.run_bind, Sem.run_pure, Result.andThen_ok, invoke]
          rw [hrun]
          rcases this with ⟨he, hc⟩ | ⟨x, w', he, ρ', hp, hx⟩
          · rw [he]
            refine ⟨Fw.depth _, Fw.calls (hc.mono (fun e w' hh => ?_))⟩
            obtain ⟨x, rfl, ρ', hp, hx⟩ := hh
            exact hk x w' ρ' hp hx
          · rw [he]
            exact hk x w' ρ' hp hx
        · rename_i id
          split at h
          · cases hg with
            | yield _ r hρ =>
            have hf0 : first' = #[] := Array.eq_empty_of_size_eq_zero (by rw [← hxl]; rfl)
            subst hf0
            obtain ⟨f2, tmps, assign, body, k1, k2⟩ := yieldTo_sim hrec h ho hr hf hav hρ ro (n - 1)
            have hrun : (Go.execOp a.eval { dst, op := .call { callee := .value f, args := cargs, argTypes := ctys }, type, pos, after, guard }).run E.P w = (Instr.yield r.b (cargs.map a.eval)).run E.P w := by
              simp only [Go.execOp, resolve, hvf, Deferred.ofValue, Sem.run_bind, Sem.run_pure, Result.andThen_ok, invoke, Array.empty_append]
            rw [hrun, k1]
            refine ⟨Fw.depth _, k2.mono (fun e w' hh => ?_)⟩
            obtain ⟨x, rfl, ρ', hp, hx⟩ := hh
            exact hk x w' ρ' hp hx
          · exact (fail_ok h).elim
        · exact (fail_ok h).elim
      | _ => rw [hvf] at hfv; cases hfv
    · exact (fail_ok h).elim
  · obtain ⟨x, w', ρ', h1, h2, h3⟩ := execOp_sim h ho hr hf ht (fun c f hc hf => hcall ⟨c, f, hc, hf⟩)
    rcases h1 with h1 | ⟨h1, rfl⟩
    · rw [h1]; exact hk x w' ρ' h2 h3
    · rw [h1]; exact hk _ w' ρ' h2 h3
/-- An operation of a region, wanted or not. -/
theorem opV_sim {rec : Rec} (hrec : SimC E.P rec) {ops : Array Oper} {o : Oper} {tm : List AVal} {a : Act} (h : (opV E rec ops.toList o tm).run s = .ok v s') (ho : OkObs s') (hr : Rel E.P ρ m s.heap.get w) (hf : Fresh ρ s s') (ht : RL ρ m tm a.tmps)
    {ro : Option Nat} {n : Nat} {next : Act → World → Prop} {Q : Exit → Act → World → Prop}
    (hk : ∀ x w' ρ', Post E.P ρ m s w ρ' m s' w' → R ρ' m v x → next (a.put o.dst x) w') :
    if Region.wanted o (yielded ops a.tmps) then o.wpIn (Fw ro) n E.P a w next Q else (∀ f, o.about E.P w a.eval = some f → (Fw ro).fn f) ∧ next (a.put o.dst Go.undef) w := by
  obtain ⟨b, s1, h1, h2, ho1, _, n1⟩ := M.bind_did h ho
  obtain ⟨e1, hw⟩ := wanted_sim h1 ho1 ht
  cases b with
  | true =>
    rw [if_pos hw]
    exact op_sim hrec h2 ho (hr.of_same e1) (hf.of_same e1) ht (fun x w' ρ' hp hx => hk x w' ρ' (hp.after e1) hx)
  | false =>
    rw [if_neg (by rw [hw]; simp)]
    obtain ⟨rfl, rfl⟩ := pure_ok h2
    exact ⟨fun _ _ => trivial, hk _ w ρ (.of_same hr e1) undef_sim⟩
theorem opAt_sim {rec : Rec} (hrec : SimC E.P rec) {ops : Array Oper} {o : Oper} {tm tm' : List AVal} {a : Act} (h : (opAt E rec ops.toList o tm).run s = .ok tm' s') (ho : OkObs s') (hr : Rel E.P ρ m s.heap.get w) (hf : Fresh ρ s s') (ht : RL ρ m tm a.tmps)
    {ro : Option Nat} {n : Nat} {next : Act → World → Prop} {Q : Exit → Act → World → Prop}
    (hk : ∀ x v w' ρ', Post E.P ρ m s w ρ' m s' w' → tm' = putT tm o.dst v → R ρ' m v x → RL ρ' m tm' (a.put o.dst x).tmps → next (a.put o.dst x) w') :
    if Region.wanted o (yielded ops a.tmps) then o.wpIn (Fw ro) n E.P a w next Q else (∀ f, o.about E.P w a.eval = some f → (Fw ro).fn f) ∧ next (a.put o.dst Go.undef) w := by
  obtain ⟨v, s1, h1, h2⟩ := M.bind_ok h
  obtain ⟨rfl, rfl⟩ := pure_ok h2
  exact opV_sim hrec h1 ho hr hf ht (fun x w' ρ' hp hx => hk x v w' ρ' hp rfl hx (put_sim (ht.mono hp.ren hp.mle) o.dst hx))
theorem Act.put_defers (a : Act) (d : Option Tmp) (x : Value) : (a.put d x).defers = a.defers := by cases d <;> rfl
theorem evalOps_sim {rec : Rec} (hrec : SimC E.P rec) {ops : Array Oper} {ro : Option Nat} {n : Nat} {Q : Exit → Act → World → Prop} : ∀ (l : List Oper) {tm tm' : List AVal} {s : St} {ρ : Ren} {w : World} {a : Act}, (evalOps E rec ops.toList l tm).run s = .ok tm' s' → OkObs s' →
    Rel E.P ρ m s.heap.get w → Fresh ρ s s' → RL ρ m tm a.tmps → (∀ a' w' ρ', Post E.P ρ m s w ρ' m s' w' → RL ρ' m tm' a'.tmps → a'.defers = a.defers → Q .normal a' w') → wpListIn (Fw ro) n E.P ops Q l a w := by
  intro l
  induction l with
  | nil =>
    intro tm tm' s ρ w a h ho hr hf ht hk
    obtain ⟨rfl, rfl⟩ := pure_ok h
    exact hk a w ρ (.of_same hr (.refl _)) ht rfl
  | cons o l ih =>
    intro tm tm' s ρ w a h ho hr hf ht hk
    obtain ⟨tm1, s1, h1, h2, ho1, _, n1⟩ := M.bind_did h ho
    refine opAt_sim hrec h1 ho1 hr (hf.fst n1) ht (fun x v w' ρ' hp _ hx ht' => ?_)
    exact ih h2 ho hp.rel (hf.snd hp) ht' (fun a' w'' ρ'' hp2 ht2 hd => hk a' w'' ρ'' (hp.trans hp2) ht2 (by rw [hd, Act.put_defers]))
end
end Go.Am
