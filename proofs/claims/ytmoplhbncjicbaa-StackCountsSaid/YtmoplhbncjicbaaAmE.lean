/- Maps: what it is that the abstract machine does what the model does. -/
import Derived.Test.YtmoplhbncjicbaaAmY
set_option linter.unusedSimpArgs false
set_option linter.unusedVariables false
namespace Go.Am
open Go
variable {E : Env}
section
variable {ρ : Ren} {m : Mem} {s s' : St} {w : World} {v : AVal}
theorem keyB_sim : ∀ (d k : Nat) {t : TypeId} {a : AVal} {u : Unit} {s s' : St}, (keyB E d t a).run s = .ok u s' → OkObs s' → ∀ {x : Value}, R ρ m a x → ∀ (w : World) (em : Bool),
    Same s s' ∧ (Instr.checkKey em (d + k) t x).run E.P w = .ok () w := by
  intro d
  induction d with
  | zero => intro k t a u s s' h; exact (fail_ok h).elim
  | succ d ih =>
    intro k t a u s s' h ho x hx w em
    obtain ⟨dd, s1, h1, h2⟩ := M.bind_ok h
    obtain ⟨⟨i, hi, rfl⟩, rfl⟩ := und_ok h1
    have hu := hi.run_und (w := w)
    have ek : d + 1 + k = (d + k) + 1 := by omega
    rw [ek]
    cases hd : i.desc with
    | bool =>
      rw [hd] at h2 hu
      obtain ⟨_, rfl⟩ := pure_ok h2
      exact ⟨.refl _, by simp only [Instr.checkKey, Sem.run_bind, hu, Result.andThen_ok, Sem.run_pure]⟩
    | int kk =>
      rw [hd] at h2 hu
      obtain ⟨_, rfl⟩ := pure_ok h2
      exact ⟨.refl _, by simp only [Instr.checkKey, Sem.run_bind, hu, Result.andThen_ok, Sem.run_pure]⟩
    | string =>
      rw [hd] at h2 hu
      obtain ⟨_, rfl⟩ := pure_ok h2
      exact ⟨.refl _, by simp only [Instr.checkKey, Sem.run_bind, hu, Result.andThen_ok, Sem.run_pure]⟩
    | struct fs =>
      rw [hd] at h2 hu
      obtain ⟨l, rfl, h3⟩ := agg_ok h2
      obtain ⟨xs, rfl, hxs⟩ := hx.agg_inv
      simp only [Instr.checkKey, Sem.run_bind, hu, Result.andThen_ok]
      rw [← Array.forIn_toList]
      clear h1 h2 h hx hu hi hd
      revert s1 s'
      induction fs.toList with
      | nil =>
        intro s' ho s1 h
        obtain ⟨_, rfl⟩ := pure_ok h
        exact ⟨.refl _, by simp⟩
      | cons f fl ihl =>
        intro s' ho s1 h
        obtain ⟨_, s2, h5, h6, ho2, _, _⟩ := M.bind_did h ho
        obtain ⟨e2, r2⟩ := ihl ho _ h6
        simp only at h5
        split at h5
        · rename_i hn
          have hn' : f.name = "_" := of_decide_eq_true hn
          obtain ⟨_, rfl⟩ := pure_ok h5
          refine ⟨e2, ?_⟩
          simp only [List.forIn_cons, hn', ne_eq, not_true_eq_false, if_false, Sem.run_bind, Sem.run_pure, Result.andThen_ok]
          simpa only [ne_eq, Sem.run_pure] using r2
        · rename_i hn
          have hn' : ¬ f.name = "_" := of_decide_eq_false hn
          obtain ⟨a1, s4, k1, k2⟩ := M.bind_ok h5
          obtain ⟨rfl, xa, k3, k4⟩ := part_sim k1 hxs w
          obtain ⟨e1, r1⟩ := ih k k2 ho2 k4 w em
          refine ⟨e1.trans e2, ?_⟩
          simp only [List.forIn_cons, ne_eq, hn', not_false_eq_true, if_true, Sem.run_bind, k3, r1, Sem.run_pure, Result.andThen_ok]
          simpa only [ne_eq, Sem.run_pure] using r2
    | array n e =>
      rw [hd] at h2 hu
      obtain ⟨l, rfl, h3⟩ := agg_ok h2
      obtain ⟨xs, rfl, hxs⟩ := hx.agg_inv
      obtain ⟨z, s2, h5, h6⟩ := M.bind_ok h3
      obtain ⟨⟨j, hj, rfl⟩, rfl⟩ := sizeOf_ok h5
      simp only [Instr.checkKey, Sem.run_bind, hu, Result.andThen_ok]
      rw [Std.Legacy.Range.forIn_eq_forIn_range']
      simp only [Std.Legacy.Range.size, Nat.sub_zero, Nat.add_sub_cancel, Nat.div_one, ← List.range_eq_range']
      clear h1 h2 h3 h5 h hx hu hi hd
      revert s2 s'
      induction List.range n with
      | nil =>
        intro s' ho s2 h
        obtain ⟨_, rfl⟩ := pure_ok h
        exact ⟨.refl _, by simp⟩
      | cons q ql ihl =>
        intro s' ho s2 h
        obtain ⟨_, s3, h5, h6, ho2, _, _⟩ := M.bind_did h ho
        obtain ⟨e2, r2⟩ := ihl ho _ h6
        obtain ⟨a1, s4, k1, k2⟩ := M.bind_ok h5
        obtain ⟨rfl, xa, k3, k4⟩ := part_sim k1 hxs w
        obtain ⟨e1, r1⟩ := ih k k2 ho2 k4 w em
        refine ⟨e1.trans e2, ?_⟩
        have hz : ∀ w : World, (Go.sizeOf e).run E.P w = .ok j.size w := fun w => hj.run_size
        simp only [List.forIn_cons, Sem.run_bind, hz, k3, r1, Sem.run_pure, Result.andThen_ok]
        simpa only [Sem.run_pure] using r2
    | _ => rw [hd] at h2; exact (fail_ok h2).elim
/-- Entries, one by one. -/
inductive MEs (ρ : Ren) (m : Mem) : List Ent → List MapEntry → Prop
  | nil : MEs ρ m [] []
  | cons {e : Ent} {x : MapEntry} {es : List Ent} {l : List MapEntry} (h : ME ρ m e x) (t : MEs ρ m es l) : MEs ρ m (e :: es) (x :: l)
theorem MEs.of : ∀ {es : List Ent} {l : List MapEntry}, es.length = l.length → (∀ (i : Nat) e x, es[i]? = some e → l[i]? = some x → ME ρ m e x) → MEs ρ m es l
  | [], [], _, _ => .nil
  | e :: es, x :: l, hl, h => .cons (h 0 e x rfl rfl) (MEs.of (by simpa using hl) fun i a b ha hb => h (i + 1) a b (by simpa using ha) (by simpa using hb))
  | [], _ :: _, hl, _ => by simp at hl
  | _ :: _, [], hl, _ => by simp at hl
theorem MEs.len {es : List Ent} {l : List MapEntry} (h : MEs ρ m es l) : es.length = l.length := by
  induction h with
  | nil => rfl
  | cons _ _ ih => simp [ih]
theorem MEs.get {es : List Ent} {l : List MapEntry} (h : MEs ρ m es l) : ∀ (i : Nat) e x, es[i]? = some e → l[i]? = some x → ME ρ m e x := by
  induction h with
  | nil => intro i e x he; simp at he
  | cons h t ih =>
    intro i e x he hx
    cases i with
    | zero => simp at he hx; subst he; subst hx; exact h
    | succ i => exact ih i e x (by simpa using he) (by simpa using hx)
theorem MEs.app {a b : List Ent} {x y : List MapEntry} (h : MEs ρ m a x) (h' : MEs ρ m b y) : MEs ρ m (a ++ b) (x ++ y) := by
  induction h with
  | nil => exact h'
  | cons h t ih => exact .cons h ih
def FoundR (es : List Ent) (l : List MapEntry) (i : Nat) (r : Option (Nat × AVal)) (r' : Option (Nat × Value)) : Prop :=
  (r = none ∧ r' = none) ∨ ∃ (p : Nat) (e : Ent) (x : MapEntry), es[p]? = some e ∧ l[p]? = some x ∧ r = some (i + p, e.2.1) ∧ r' = some (i + p, x.val)
theorem FoundR.cons {e : Ent} {x : MapEntry} {es : List Ent} {l : List MapEntry} {i : Nat} {r : Option (Nat × AVal)} {r' : Option (Nat × Value)} (h : FoundR es l (i + 1) r r') : FoundR (e :: es) (x :: l) i r r' := by
  rcases h with h | ⟨p, e', x', h1, h2, h3, h4⟩
  · exact .inl h
  · refine .inr ⟨p + 1, e', x', by simpa using h1, by simpa using h2, ?_, ?_⟩
    · rw [h3, Nat.add_assoc, Nat.add_comm 1 p]
    · rw [h4, Nat.add_assoc, Nat.add_comm 1 p]
theorem findAsking_sim {kt : TypeId} {k : AVal} {xk : Value} (hk : R ρ m k xk) (w : World) {es : List Ent} {l : List MapEntry} (he : MEs ρ m es l) : ∀ {i : Nat} {r : Option (Nat × AVal)} {s s' : St}, (findA E kt k es i).run s = .ok r s' → OkObs s' →
    Same s s' ∧ ∃ r', (Instr.findAsking kt xk l i).run E.P w = .ok r' w ∧ FoundR es l i r r' := by
  induction he with
  | nil =>
    intro i r s s' h ho
    obtain ⟨rfl, rfl⟩ := pure_ok h
    exact ⟨.refl _, none, rfl, .inl ⟨rfl, rfl⟩⟩
  | cons hx t ih =>
    rename_i e x es l
    intro i r s s' h ho
    obtain ⟨b, s1, h1, h2, ho1, _, _⟩ := M.bind_did h ho
    obtain ⟨e1, r1⟩ := equal_sim 100 9900 h1 ho1 hk hx.key w
    have r1' : (Op.equal kt xk x.key).run E.P w = .ok b w := r1
    cases b with
    | true =>
      obtain ⟨rfl, rfl⟩ := pure_ok h2
      refine ⟨e1, _, ?_, .inr ⟨0, e, x, rfl, rfl, rfl, rfl⟩⟩
      simp only [Instr.findAsking, Sem.run_bind, r1', Result.andThen_ok, if_true, Sem.run_pure, Nat.add_zero]
    | false =>
      obtain ⟨e2, r', k1, k2⟩ := ih h2 ho
      refine ⟨e1.trans e2, r', ?_, k2.cons⟩
      simp only [Instr.findAsking, Sem.run_bind, r1', Result.andThen_ok, Bool.false_eq_true, if_false, k1]
theorem sameNow_equal {P : Program} {kt : TypeId} {d : TypeDesc} (hu : ∀ w : World, (Go.underlying kt).run P w = .ok d w) {x y : Value} {c : Bool} (h : Instr.sameNow d x y = some c) (n : Nat) (w : World) : (Op.equalIn (n + 1) kt x y).run P w = .ok c w := by
  unfold Instr.sameNow at h
  split at h
  · split at h
    · rename_i hk
      subst hk
      injection h with h
      subst h
      simp only [Op.equalIn, Sem.run_bind, hu, Result.andThen_ok, if_true, Sem.run_pure]
    · cases h
  · injection h with h
    subst h
    simp only [Op.equalIn, Sem.run_bind, hu, Result.andThen_ok, if_true, Sem.run_pure]
  · injection h with h
    subst h
    simp only [Op.equalIn, Sem.run_bind, hu, Result.andThen_ok, if_true, Sem.run_pure]
  · cases h
theorem findNow_sim {kt : TypeId} {d : TypeDesc} (hu : ∀ w : World, (Go.underlying kt).run E.P w = .ok d w) {k : AVal} {xk : Value} (hk : R ρ m k xk) (w : World) {es : List Ent} {l : List MapEntry} (he : MEs ρ m es l) : ∀ {i : Nat} {r : Option (Nat × AVal)} {s s' : St}, (findA E kt k es i).run s = .ok r s' → OkObs s' →
    (Instr.findNow d xk l i = none) ∨ ∃ r', Instr.findNow d xk l i = some r' ∧ FoundR es l i r r' := by
  induction he with
  | nil =>
    intro i r s s' h ho
    obtain ⟨rfl, rfl⟩ := pure_ok h
    exact .inr ⟨none, rfl, .inl ⟨rfl, rfl⟩⟩
  | cons hx t ih =>
    rename_i e x es l
    intro i r s s' h ho
    obtain ⟨b, s1, h1, h2, ho1, _, _⟩ := M.bind_did h ho
    obtain ⟨e1, r1⟩ := equal_sim 100 9900 h1 ho1 hk hx.key w
    have r1' : (Op.equal kt xk x.key).run E.P w = .ok b w := r1
    cases hc : Instr.sameNow d xk x.key with
    | none => exact .inl (by simp only [Instr.findNow, hc])
    | some c =>
      have : (Op.equal kt xk x.key).run E.P w = .ok c w := sameNow_equal hu hc 9999 w
      rw [r1'] at this
      injection this with this
      subst this
      cases b with
      | true =>
        obtain ⟨rfl, rfl⟩ := pure_ok h2
        exact .inr ⟨_, by simp only [Instr.findNow, hc]; rfl, .inr ⟨0, e, x, rfl, rfl, rfl, rfl⟩⟩
      | false =>
        rcases ih h2 ho with q | ⟨r', k1, k2⟩
        · exact .inl (by simp only [Instr.findNow, hc]; exact q)
        · exact .inr ⟨r', by simp only [Instr.findNow, hc]; exact k1, k2.cons⟩
theorem findKey_sim {kt : TypeId} {d : TypeDesc} (hu : ∀ w : World, (Go.underlying kt).run E.P w = .ok d w) {k : AVal} {xk : Value} (hk : R ρ m k xk) (w : World) {es : List Ent} {l : List MapEntry} (he : MEs ρ m es l) {r : Option (Nat × AVal)} {s s' : St} (h : (findA E kt k es 0).run s = .ok r s') (ho : OkObs s') :
    Same s s' ∧ ∃ r', (Instr.findKey kt xk l).run E.P w = .ok r' w ∧ FoundR es l 0 r r' := by
  obtain ⟨e1, r', k1, k2⟩ := findAsking_sim hk w he h ho
  refine ⟨e1, ?_⟩
  rcases findNow_sim hu hk w he h ho with q | ⟨r2, q1, q2⟩
  · exact ⟨r', by simp only [Instr.findKey, Sem.run_bind, hu, Result.andThen_ok, q, k1], k2⟩
  · exact ⟨r2, by simp only [Instr.findKey, Sem.run_bind, hu, Result.andThen_ok, q1, Sem.run_pure], q2⟩
theorem RV.of : ∀ {l : List AVal} {xs : List Value}, l.length = xs.length → (∀ (i : Nat) v x, l[i]? = some v → xs[i]? = some x → R ρ m v x) → RV ρ m l xs
  | [], [], _, _ => .nil
  | v :: l, x :: xs, hl, h => .cons (h 0 v x rfl rfl) (RV.of (by simpa using hl) fun i a b ha hb => h (i + 1) a b (by simpa using ha) (by simpa using hb))
  | [], _ :: _, hl, _ => by simp at hl
  | _ :: _, [], hl, _ => by simp at hl
theorem RL.rv {l : List AVal} {c : Array Value} (h : RL ρ m l c) : RV ρ m l c.toList := RV.of (by simpa using h.len) fun i v x hv hx => h.at_ i v x hv (by simpa using hx)
theorem bytes_beq (l : List UInt8) : ((⟨⟨l⟩⟩ : ByteArray) == ⟨⟨l⟩⟩) = true := by rw [beq_toListBytes]; simp
theorem same1_ok {a b : AVal} (h : same1 a b = true) {x y : Value} (hx : R ρ m a x) (hy : R ρ m b y) (n : Nat) : a = b ∧ x = y ∧ Instr.sameBits n x y = true := by
  unfold same1 at h
  split at h
  · rename_i k a j b
    simp only [Bool.and_eq_true, decide_eq_true_eq, beq_iff_eq] at h
    obtain ⟨rfl, rfl⟩ := h
    obtain rfl := hx.int_inv
    obtain rfl := hy.int_inv
    exact ⟨rfl, rfl, by cases n <;> simp [Instr.sameBits]⟩
  · rename_i a b
    simp only [beq_iff_eq] at h
    subst h
    obtain rfl := hx.str_inv
    obtain rfl := hy.str_inv
    exact ⟨rfl, rfl, by cases n <;> simp [Instr.sameBits, bytes_beq]⟩
  · cases h
theorem all2_ok : ∀ {a b : List AVal}, all2 a b = true → ∀ {x y : List Value}, RV ρ m a x → RV ρ m b y → ∀ n, a = b ∧ x = y ∧ (x.zip y).all (fun (p : Value × Value) => Instr.sameBits n p.1 p.2) = true
  | [], [], _, x, y, hx, hy, n => by cases hx; cases hy; exact ⟨rfl, rfl, rfl⟩
  | a :: l, b :: l', h, x, y, hx, hy, n => by
    cases hx with
    | cons h1 t1 =>
      cases hy with
      | cons h2 t2 =>
        simp only [all2, Bool.and_eq_true] at h
        obtain ⟨rfl, rfl, q⟩ := same1_ok h.1 h1 h2 n
        obtain ⟨rfl, rfl, q2⟩ := all2_ok h.2 t1 t2 n
        exact ⟨rfl, rfl, by simp only [List.zip_cons_cons, List.all_cons, q, q2, Bool.and_self]⟩
  | [], _ :: _, h, _, _, _, _, _ => by cases h
  | _ :: _, [], h, _, _, _, _, _ => by cases h
theorem sameKey_ok {a b : AVal} (h : sameKey a b = true) {x y : Value} (hx : R ρ m a x) (hy : R ρ m b y) (w : World) : a = b ∧ x = y ∧ (Instr.keyThatStays x y).run E.P w = .ok y w := by
  have fin : Instr.sameBits 10000 x y = true → (Instr.keyThatStays x y).run E.P w = .ok y w := fun q => by
    simp only [Instr.keyThatStays, q, if_true, Sem.run_pure]
  unfold sameKey at h
  split at h
  · rename_i a b
    obtain ⟨xs, rfl, hxs⟩ := hx.agg_inv
    obtain ⟨ys, rfl, hys⟩ := hy.agg_inv
    obtain ⟨rfl, e, q⟩ := all2_ok h (x := xs.toList) (y := ys.toList) hxs.rv hys.rv 9999
    have e' : xs = ys := Array.toList_inj.1 e
    subst e'
    refine ⟨rfl, rfl, fin ?_⟩
    have : Instr.sameBits (9999 + 1) (.agg xs) (.agg xs) = (xs.size == xs.size && (xs.toList.zip xs.toList).all fun (x, y) => Instr.sameBits 9999 x y) := rfl
    rw [this]
    simp only [beq_self_eq_true, Bool.true_and]
    exact q
  · obtain ⟨e, e2, q⟩ := same1_ok h hx hy 10000
    exact ⟨e, e2, fin q⟩
  · obtain ⟨e, e2, q⟩ := same1_ok h hx hy 10000
    exact ⟨e, e2, fin q⟩
  · cases h
/-- A map that stands behind a value. -/
theorem map_at {id : Nat} {es : List Ent} {ck : Nat} (hr : Rel E.P ρ m s.heap.get w) (hg : s.heap.get id = some (.map es ck)) {x : Value} (hx : R ρ m (.map id) x) :
    ∃ r arr, x = .map (some r.b) ∧ ρ id = some r ∧ (getObj r.b).run E.P w = .ok (.map arr ck) w ∧ w.heap[r.b]? = some (.map arr ck) ∧ MEs ρ m es arr.toList := by
  cases hx with
  | map _ r hρ =>
    obtain ⟨rb, o, q1, q2, q3, q4⟩ := hr.live id _ hg
    rw [hρ] at q1
    injection q1 with q1
    subst q1
    cases q3 with
    | map _ _ arr hl hra =>
      exact ⟨r, arr, rfl, hρ, run_getObj_at q2 (fun _ _ _ h => by cases h), q2, MEs.of (by simpa using hl) fun i e x he hx => hra i e x he (by simpa using hx)⟩
theorem map_set {id : Nat} {es es' : List Ent} {ck ck' : Nat} {s1 : St} {u : Unit} {r : RB} {arr arr' : Array MapEntry} (hr : Rel E.P ρ m s.heap.get w) (hg : s.heap.get id = some (.map es ck)) (hρ : ρ id = some r) (e : Same s s1)
    (h : (setB id (.map es' ck')).run s1 = .ok u s') (hw : w.heap[r.b]? = some (.map arr ck)) (hm : MEs ρ m es' arr'.toList) :
    (setObj r.b (.map arr' ck')).run E.P w = .ok () (World.upd w r.b (.map arr' ck')) ∧ Post E.P ρ m s w ρ m s' (World.upd w r.b (.map arr' ck')) := by
  obtain ⟨_, hn, hset⟩ := set_ok h
  refine ⟨run_setObj_upd hw (fun _ _ _ h => by cases h), .refl ρ, fun _ h => .inl h, fun _ _ h => h,
    hr.upd hg hρ (.map r es' ck' arr' (by simpa using hm.len) fun i e x he hx => hm.get i e x he (by simpa using hx)) (fun j => by rw [hset j, e.heap]), World.upd_fr _ _ _, by rw [hn, e.next]; exact Nat.le_refl _⟩
theorem okV_sim {ok is : Bool} {a : AVal} {x : Value} (hx : R ρ m a x) : R ρ m (okV ok a is) (if ok then .tuple #[x, .bool is] else x) := by
  cases ok with
  | false => exact hx
  | true =>
    refine .tup _ _ rfl (fun i v y hv hy => ?_)
    rcases i with _ | _ | i
    · simp at hv hy; subst hv; subst hy; exact hx
    · simp at hv hy; subst hv; subst hy; exact .blit _
    · simp at hv
theorem makeMap_sim {t : TypeId} {r : Option AVal} {r' : Option Value} (h : (makeMapM r).run s = .ok v s') (hr : Rel E.P ρ m s.heap.get w) (hf : Fresh ρ s s') (hn : r = none → r' = none) :
    Out E.P ρ m s w s' v ((Instr.makeMap t r').run E.P w) := by
  unfold makeMapM at h
  split at h
  · rw [hn rfl]
    obtain ⟨id, s1, h1, h2⟩ := M.bind_ok h
    obtain ⟨rfl, rfl⟩ := pure_ok h2
    obtain ⟨_, hp⟩ := newObj_sim h1 hr hf (.map #[] 0) 0 0 (fun _ _ => .map _ [] 0 #[] rfl (fun i e x he => by simp at he))
    refine ⟨_, _, _, ?_, hp, .map id ⟨w.heap.size, 0, 0⟩ (by simp [Ren.put])⟩
    simp only [Instr.makeMap, Sem.run_bind, Result.andThen_ok, Sem.run_pure, run_newObj_alloc]
  · exact (fail_ok h).elim
theorem keyB_und {d : Nat} {t : TypeId} {a : AVal} {u : Unit} (h : (keyB E d t a).run s = .ok u s') : ∃ i, TOk E.P t i := by
  cases d with
  | zero => exact (fail_ok h).elim
  | succ d =>
    obtain ⟨dd, s1, h1, h2⟩ := M.bind_ok h
    obtain ⟨⟨i, hi, rfl⟩, rfl⟩ := und_ok h1
    exact ⟨i, hi⟩
theorem lookup_sim {t : TypeId} {a k : AVal} {ok : Bool} (h : (lookupM E t a k ok).run s = .ok v s') (ho : OkObs s') (hr : Rel E.P ρ m s.heap.get w) {x y : Value} (hx : R ρ m a x) (hy : R ρ m k y) :
    Out E.P ρ m s w s' v ((Instr.lookup t x y ok).run E.P w) := by
  obtain ⟨d, s1, h1, h2⟩ := M.bind_ok h
  obtain ⟨⟨i, hi, rfl⟩, rfl⟩ := und_ok h1
  have hu := hi.run_und (w := w)
  cases hd : i.desc
  case map kt et =>
    rw [hd] at h2 hu
    obtain ⟨es, s2, h3, h4, ho2, _, _⟩ := M.bind_did h2 ho
    obtain ⟨u, s3, h5, h6, ho3, _, _⟩ := M.bind_did h4 ho
    obtain ⟨rr, s4, h7, h8, ho4, _, _⟩ := M.bind_did h6 ho
    obtain ⟨i2, hi2⟩ := keyB_und h5
    have fin : ∀ (arr : Array MapEntry), Same s1 s2 → MEs ρ m es arr.toList → (Instr.checkKey arr.isEmpty 10000 kt y).run E.P w = .ok () w ∧
        ((∃ zv, (Instr.findKey kt y arr.toList).run E.P w = .ok none w ∧ (zeroValue et).run E.P w = .ok zv w ∧ Out E.P ρ m s1 w s' v (.ok (if ok then .tuple #[zv, .bool false] else zv) w)) ∨
         (∃ n zv, (Instr.findKey kt y arr.toList).run E.P w = .ok (some (n, zv)) w ∧ Out E.P ρ m s1 w s' v (.ok (if ok then .tuple #[zv, .bool true] else zv) w))) := fun arr e0 hm => by
      obtain ⟨e1, q1⟩ := keyB_sim 100 9900 h5 ho3 hy w arr.isEmpty
      obtain ⟨e2, r', q2, q3⟩ := findKey_sim (fun w => hi2.run_und (w := w)) hy w hm h7 ho4
      refine ⟨q1, ?_⟩
      rcases q3 with ⟨e3, e4⟩ | ⟨p, e, z, g1, g2, e3, e4⟩
      · subst e3; subst e4
        obtain ⟨z, s5, h9, h10⟩ := M.bind_ok h8
        obtain ⟨⟨j, hj, rfl⟩, rfl⟩ := zeroOf_ok h9
        obtain ⟨rfl, rfl⟩ := pure_ok h10
        obtain ⟨zv, hz, hzi⟩ := hj.run_zero (w := w)
        exact .inl ⟨zv, q2, hz, .same hr (e0.trans (e1.trans e2)) (okV_sim (hzi ▸ ofValue_junk zv))⟩
      · subst e3; subst e4
        obtain ⟨rfl, rfl⟩ := pure_ok h8
        exact .inr ⟨_, _, q2, .same hr (e0.trans (e1.trans e2)) (okV_sim (hm.get p e z g1 g2).val)⟩
    unfold entsOf at h3
    split at h3
    · obtain ⟨rfl, rfl⟩ := pure_ok h3
      cases hx
      obtain ⟨q1, q⟩ := fin #[] (.refl _) .nil
      have q1 : (Instr.checkKey true 10000 kt y).run E.P w = .ok () w := q1
      have el : (#[] : Array MapEntry).toList = [] := rfl
      rw [el] at q
      rcases q with ⟨zv, q2, q3, q4⟩ | ⟨n, zv, q2, q4⟩
      · obtain ⟨xx, ww, rr, h9, h10, h11⟩ := q4
        refine ⟨xx, ww, rr, ?_, h10, h11⟩
        rw [← h9]
        simp only [Instr.lookup, Sem.run_bind, hu, Result.andThen_ok, Sem.run_pure, Array.isEmpty_empty, q1, q2, q3, Array.toList_empty]
      · obtain ⟨xx, ww, rr, h9, h10, h11⟩ := q4
        refine ⟨xx, ww, rr, ?_, h10, h11⟩
        rw [← h9]
        simp only [Instr.lookup, Sem.run_bind, hu, Result.andThen_ok, Sem.run_pure, Array.isEmpty_empty, q1, q2, Array.toList_empty]
    · rename_i id
      obtain ⟨b, s5, h9, h10⟩ := M.bind_ok h3
      obtain ⟨hg, e1⟩ := get_ok h9
      unfold mapK at h10
      split at h10
      · rename_i es' ck
        obtain ⟨rfl, rfl⟩ := pure_ok h10
        obtain ⟨r, arr, rfl, hρ, hgo, hw, hm⟩ := map_at hr hg hx
        obtain ⟨q1, q⟩ := fin arr e1 hm
        rcases q with ⟨zv, q2, q3, q4⟩ | ⟨n, zv, q2, q4⟩
        · obtain ⟨xx, ww, rr, h9, h10, h11⟩ := q4
          refine ⟨xx, ww, rr, ?_, h10, h11⟩
          rw [← h9]
          simp only [Instr.lookup, Sem.run_bind, hu, hgo, Result.andThen_ok, Sem.run_pure, q1, q2, q3]
        · obtain ⟨xx, ww, rr, h9, h10, h11⟩ := q4
          refine ⟨xx, ww, rr, ?_, h10, h11⟩
          rw [← h9]
          simp only [Instr.lookup, Sem.run_bind, hu, hgo, Result.andThen_ok, Sem.run_pure, q1, q2]
      · exact (fail_ok h10).elim
    · exact (fail_ok h3).elim
  all_goals (rw [hd] at h2; exact (fail_ok h2).elim)
theorem MEs.modify {es : List Ent} {arr : Array MapEntry} (h : MEs ρ m es arr.toList) {p : Nat} {f : Ent → Ent} {g : MapEntry → MapEntry} (hfg : ∀ e x, es[p]? = some e → arr[p]? = some x → ME ρ m (f e) (g x)) : MEs ρ m (es.modify p f) (arr.modify p g).toList := by
  have hl := h.len
  refine MEs.of (by simpa using hl) fun i e x he hx => ?_
  rw [Array.getElem?_toList, Array.getElem?_modify] at hx
  rw [List.getElem?_modify] at he
  by_cases c : p = i
  · subst c
    rw [if_pos rfl] at hx
    cases h1 : es[p]? with
    | none => rw [h1] at he; cases he
    | some e0 =>
      cases h2 : arr[p]? with
      | none => rw [h2] at hx; cases hx
      | some x0 =>
        rw [h1] at he
        rw [h2] at hx
        simp at he
        injection hx with hx
        subst he; subst hx
        exact hfg e0 x0 h1 h2
  · rw [if_neg c] at hx
    cases h1 : es[i]? with
    | none => rw [h1] at he; cases he
    | some e0 =>
      rw [h1] at he
      simp [c] at he
      subst he
      exact h.get i e0 x h1 (by rw [Array.getElem?_toList]; exact hx)
theorem MEs.erase {es : List Ent} {l : List MapEntry} (h : MEs ρ m es l) : ∀ p, MEs ρ m (es.eraseIdx p) (l.eraseIdx p) := by
  induction h with
  | nil => intro p; exact .nil
  | cons h t ih =>
    intro p
    cases p with
    | zero => exact t
    | succ p => exact .cons h (ih p)
theorem born_sim {n : Int} {es : List Ent} {l : List MapEntry} (h : MEs ρ m es l) : ∀ {i j : Nat}, bornAt n es i = some j → ∃ p, j = i + p ∧ l.findIdx? (fun e => (e.born : Int) == n) = some p ∧ p < l.length := by
  induction h with
  | nil => intro i j h; cases h
  | cons hx t ih =>
    rename_i e x es l
    intro i j h
    unfold bornAt at h
    have hb := hx.born
    split at h
    · rename_i q
      injection h with h
      exact ⟨0, by omega, by rw [List.findIdx?_cons, hb]; simp [q], by simp⟩
    · rename_i q
      obtain ⟨p, h1, h2, h3⟩ := ih h
      exact ⟨p + 1, by omega, by rw [List.findIdx?_cons, hb, q]; simp [h2], by simpa using h3⟩
theorem mapEntry_sim {t : TypeId} {a k : AVal} (h : (mapEntryM E t a k).run s = .ok v s') (ho : OkObs s') (hr : Rel E.P ρ m s.heap.get w) {x y : Value} (hx : R ρ m a x) (hy : R ρ m k y) :
    Out E.P ρ m s w s' v ((Instr.mapEntry t x y).run E.P w) := by
  obtain ⟨d, s1, h1, h2⟩ := M.bind_ok h
  obtain ⟨⟨i, hi, rfl⟩, rfl⟩ := und_ok h1
  have hu := hi.run_und (w := w)
  cases hd : i.desc
  case map kt et =>
    rw [hd] at h2 hu
    simp only at h2
    split at h2
    · rename_i id
      obtain ⟨b, s2, h3, h4, ho2, _, _⟩ := M.bind_did h2 ho
      obtain ⟨hg, e1⟩ := get_ok h3
      unfold mapK at h4
      split at h4
      · rename_i es ck
        obtain ⟨r, arr, rfl, hρ, hgo, hw, hm⟩ := map_at hr hg hx
        obtain ⟨u, s3, h5, h6, ho3, _, _⟩ := M.bind_did h4 ho
        obtain ⟨rr, s4, h7, h8, ho4, _, _⟩ := M.bind_did h6 ho
        obtain ⟨i2, hi2⟩ := keyB_und h5
        obtain ⟨e2, q1⟩ := keyB_sim 100 9900 h5 ho3 hy w false
        obtain ⟨e3, r', q2, q3⟩ := findKey_sim (fun w => hi2.run_und (w := w)) hy w hm h7 ho4
        have q1 : (Instr.checkKey false 10000 kt y).run E.P w = .ok () w := q1
        have es4 := e1.trans (e2.trans e3)
        rcases q3 with ⟨e4, e5⟩ | ⟨p, e, z, g1, g2, e4, e5⟩
        · subst e4; subst e5
          obtain ⟨z, s5, h9, h10⟩ := M.bind_ok h8
          obtain ⟨⟨j, hj, rfl⟩, rfl⟩ := zeroOf_ok h9
          obtain ⟨_, s6, h11, h12⟩ := M.bind_ok h10
          obtain ⟨rfl, rfl⟩ := pure_ok h12
          obtain ⟨zv, hz, hzi⟩ := hj.run_zero (w := w)
          obtain ⟨k1, k2⟩ := map_set (arr' := arr.push { key := y, val := zv, born := ck }) hr hg hρ es4 h11 hw (by rw [Array.toList_push]; exact hm.app (.cons ⟨hy, hzi ▸ ofValue_junk zv, rfl⟩ .nil))
          refine ⟨.tuple #[zv, goInt ck], _, ρ, ?_, k2, ?_⟩
          · simp only [Instr.mapEntry, Sem.run_bind, hu, hgo, Result.andThen_ok, Sem.run_pure, q1, q2, hz, k1]
          · refine .tup _ _ rfl (fun i v y hv hy => ?_)
            rcases i with _ | _ | i
            · simp at hv hy; subst hv; subst hy; exact hzi ▸ ofValue_junk zv
            · simp at hv hy; subst hv; subst hy; exact .int _ _
            · simp at hv
        · subst e4; subst e5
          simp only [Nat.zero_add] at h8 q2
          obtain ⟨e', s5, h9, h10⟩ := M.bind_ok h8
          obtain ⟨h9', rfl⟩ := getO_ok h9
          rw [g1] at h9'
          injection h9' with h9'
          subst h9'
          have hz := hm.get p e z g1 g2
          rw [Array.getElem?_toList] at g2
          split at h10
          · rename_i hsk
            obtain ⟨ek, ez, hst⟩ := sameKey_ok (E := E) hsk hz.key hy w
            obtain ⟨_, s6, h11, h12⟩ := M.bind_ok h10
            obtain ⟨rfl, rfl⟩ := pure_ok h12
            have hmm : MEs ρ m es (arr.modify p fun e => { e with key := y }).toList := by
              have := hm.modify (p := p) (f := fun e => e) (g := fun e => { e with key := y }) fun e0 x0 h1 h2 => by
                rw [g1] at h1; rw [g2] at h2
                injection h1 with h1; injection h2 with h2
                subst h1; subst h2
                exact ⟨ez ▸ hz.key, hz.val, hz.born⟩
              have hid : es.modify p (fun e => e) = es := by
                refine List.ext_getElem? fun i => ?_
                rw [List.getElem?_modify]
                split <;> simp
              rwa [hid] at this
            obtain ⟨k1, k2⟩ := map_set (arr' := arr.modify p fun e => { e with key := y }) hr hg hρ es4 h11 hw hmm
            refine ⟨.tuple #[z.val, goInt z.born], _, ρ, ?_, k2, ?_⟩
            · simp only [Instr.mapEntry, Sem.run_bind, hu, hgo, Result.andThen_ok, Sem.run_pure, q1, q2, g2, Option.map_some, Option.getD_some, hst, k1]
            · refine .tup _ _ rfl (fun i v y hv hy => ?_)
              rcases i with _ | _ | i
              · simp at hv hy; subst hv; subst hy; exact hz.val
              · simp at hv hy; subst hv; subst hy; rw [hz.born]; exact .int _ _
              · simp at hv
          · exact (fail_ok h10).elim
      · exact (fail_ok h4).elim
    · exact (fail_ok h2).elim
  all_goals (rw [hd] at h2; exact (fail_ok h2).elim)
/-- A statement's own answer is nothing. -/
def OutU (P : Program) (ρ : Ren) (m : Mem) (s : St) (w : World) (s' : St) (res : Result Unit) : Prop := ∃ w' ρ', res = .ok () w' ∧ Post P ρ m s w ρ' m s' w'
theorem entryStore_sim {t : TypeId} {a st b : AVal} (h : (entryStoreM a st b).run s = .ok v s') (ho : OkObs s') (hr : Rel E.P ρ m s.heap.get w) {x y z : Value} (hx : R ρ m a x) (hy : R ρ m st y) (hz : R ρ m b z) :
    v = undef ∧ OutU E.P ρ m s w s' ((Instr.entryStore t x y z).run E.P w) := by
  unfold entryStoreM at h
  split at h
  · rename_i id
    obtain ⟨b0, s2, h3, h4, ho2, _, _⟩ := M.bind_did h ho
    obtain ⟨hg, e1⟩ := get_ok h3
    unfold mapK at h4
    split at h4
    · rename_i es ck
      obtain ⟨r, arr, rfl, hρ, hgo, hw, hm⟩ := map_at hr hg hx
      obtain ⟨q, n, rfl, h5⟩ := int_ok h4
      obtain rfl := hy.int_inv
      obtain ⟨i, s3, h6, h7⟩ := M.bind_ok h5
      obtain ⟨h6', rfl⟩ := getO_ok h6
      obtain ⟨p, hp, hfi, hlt⟩ := born_sim hm h6'
      rw [Nat.zero_add] at hp
      subst hp
      obtain ⟨_, s4, h8, h9⟩ := M.bind_ok h7
      obtain ⟨rfl, rfl⟩ := pure_ok h9
      obtain ⟨k1, k2⟩ := map_set (arr' := arr.modify i fun e => { e with val := z }) hr hg hρ e1 h8 hw (hm.modify fun e0 x0 h1 h2 => by
        have := hm.get i e0 x0 h1 (by rw [Array.getElem?_toList]; exact h2)
        exact ⟨this.key, hz, this.born⟩)
      have hfi' : arr.findIdx? (fun e => (e.born : Int) == n) = some i := by
        rw [← hfi]
        cases arr
        simp
      refine ⟨rfl, _, ρ, ?_, k2⟩
      simp only [Instr.entryStore, Sem.run_bind, hgo, Result.andThen_ok, Sem.run_pure, asInt, asIntOf, hfi', k1]
    · exact (fail_ok h4).elim
  · exact (fail_ok h).elim
theorem mapUpdate_sim {t : TypeId} {a k b : AVal} (h : (mapUpdateM E t a k b).run s = .ok v s') (ho : OkObs s') (hr : Rel E.P ρ m s.heap.get w) {x y z : Value} (hx : R ρ m a x) (hy : R ρ m k y) (hz : R ρ m b z) :
    v = undef ∧ OutU E.P ρ m s w s' ((Instr.mapUpdate t x y z).run E.P w) := by
  obtain ⟨d, s1, h1, h2⟩ := M.bind_ok h
  obtain ⟨⟨i, hi, rfl⟩, rfl⟩ := und_ok h1
  have hu := hi.run_und (w := w)
  cases hd : i.desc
  case map kt et =>
    rw [hd] at h2 hu
    simp only at h2
    split at h2
    · rename_i id
      obtain ⟨b, s2, h3, h4, ho2, _, _⟩ := M.bind_did h2 ho
      obtain ⟨hg, e1⟩ := get_ok h3
      unfold mapK at h4
      split at h4
      · rename_i es ck
        obtain ⟨r, arr, rfl, hρ, hgo, hw, hm⟩ := map_at hr hg hx
        obtain ⟨u, s3, h5, h6, ho3, _, _⟩ := M.bind_did h4 ho
        obtain ⟨rr, s4, h7, h8, ho4, _, _⟩ := M.bind_did h6 ho
        obtain ⟨i2, hi2⟩ := keyB_und h5
        obtain ⟨e2, q1⟩ := keyB_sim 100 9900 h5 ho3 hy w false
        obtain ⟨e3, r', q2, q3⟩ := findKey_sim (fun w => hi2.run_und (w := w)) hy w hm h7 ho4
        have q1 : (Instr.checkKey false 10000 kt y).run E.P w = .ok () w := q1
        have es4 := e1.trans (e2.trans e3)
        rcases q3 with ⟨e4, e5⟩ | ⟨p, e, z', g1, g2, e4, e5⟩
        · subst e4; subst e5
          obtain ⟨_, s6, h11, h12⟩ := M.bind_ok h8
          obtain ⟨rfl, rfl⟩ := pure_ok h12
          obtain ⟨k1, k2⟩ := map_set (arr' := arr.push { key := y, val := z, born := ck }) hr hg hρ es4 h11 hw (by rw [Array.toList_push]; exact hm.app (.cons ⟨hy, hz, rfl⟩ .nil))
          refine ⟨rfl, _, ρ, ?_, k2⟩
          simp only [Instr.mapUpdate, Sem.run_bind, hu, hgo, Result.andThen_ok, Sem.run_pure, q1, q2, k1]
        · subst e4; subst e5
          simp only [Nat.zero_add] at h8 q2
          obtain ⟨e', s5, h9, h10⟩ := M.bind_ok h8
          obtain ⟨h9', rfl⟩ := getO_ok h9
          rw [g1] at h9'
          injection h9' with h9'
          subst h9'
          have hz' := hm.get p e z' g1 g2
          rw [Array.getElem?_toList] at g2
          split at h10
          · rename_i hsk
            obtain ⟨ek, ez, hst⟩ := sameKey_ok (E := E) hsk hz'.key hy w
            obtain ⟨_, s6, h11, h12⟩ := M.bind_ok h10
            obtain ⟨rfl, rfl⟩ := pure_ok h12
            obtain ⟨k1, k2⟩ := map_set (arr' := arr.modify p fun e => { e with key := y, val := z }) hr hg hρ es4 h11 hw (hm.modify fun e0 x0 h1 h2 => by
              rw [g1] at h1; rw [g2] at h2
              injection h1 with h1; injection h2 with h2
              subst h1; subst h2
              exact ⟨ez ▸ hz'.key, hz, hz'.born⟩)
            refine ⟨rfl, _, ρ, ?_, k2⟩
            simp only [Instr.mapUpdate, Sem.run_bind, hu, hgo, Result.andThen_ok, Sem.run_pure, q1, q2, g2, Option.map_some, Option.getD_some, hst, k1]
          · exact (fail_ok h10).elim
      · exact (fail_ok h4).elim
    · exact (fail_ok h2).elim
  all_goals (rw [hd] at h2; exact (fail_ok h2).elim)
theorem bDelete_sim {ts : List TypeId} {ty : TypeId} {a k : AVal} (h : (bDelete E ts a k).run s = .ok v s') (ho : OkObs s') (hr : Rel E.P ρ m s.heap.get w) {x y : Value} (hx : R ρ m a x) (hy : R ρ m k y) :
    Out E.P ρ m s w s' v ((Builtin.delete_ ts.toArray ty #[x, y]).run E.P w) := by
  have tup0 : R ρ m (.tup []) (.tuple #[]) := .tup _ _ rfl (fun i v x hv => by simp at hv)
  unfold bDelete at h
  split at h
  · rename_i t tl
    have h0 : ((t :: tl).toArray : Array TypeId)[0]? = some t := rfl
    have hx0 : (#[x, y] : Array Value)[0]? = some x := rfl
    have hx1 : (#[x, y] : Array Value)[1]? = some y := rfl
    obtain ⟨d, s1, h1, h2⟩ := M.bind_ok h
    obtain ⟨⟨i, hi, rfl⟩, rfl⟩ := und_ok h1
    have hu := hi.run_und (w := w)
    cases hd : i.desc
    case map kt et =>
      rw [hd] at h2 hu
      simp only at h2
      split at h2
      · rename_i id
        obtain ⟨b, s2, h3, h4, ho2, _, _⟩ := M.bind_did h2 ho
        obtain ⟨hg, e1⟩ := get_ok h3
        unfold mapK at h4
        split at h4
        · rename_i es ck
          obtain ⟨r, arr, rfl, hρ, hgo, hw, hm⟩ := map_at hr hg hx
          obtain ⟨u, s3, h5, h6, ho3, _, _⟩ := M.bind_did h4 ho
          obtain ⟨rr, s4, h7, h8, ho4, _, _⟩ := M.bind_did h6 ho
          obtain ⟨i2, hi2⟩ := keyB_und h5
          obtain ⟨e2, q1⟩ := keyB_sim 100 9900 h5 ho3 hy w arr.isEmpty
          obtain ⟨e3, r', q2, q3⟩ := findKey_sim (fun w => hi2.run_und (w := w)) hy w hm h7 ho4
          have q1 : (Instr.checkKey arr.isEmpty 10000 kt y).run E.P w = .ok () w := q1
          have es4 := e1.trans (e2.trans e3)
          rcases q3 with ⟨e4, e5⟩ | ⟨p, e, z', g1, g2, e4, e5⟩
          · subst e4; subst e5
            obtain ⟨_, s6, h11, h12⟩ := M.bind_ok h8
            obtain ⟨rfl, rfl⟩ := pure_ok h12
            obtain ⟨k1, k2⟩ := map_set (arr' := arr) hr hg hρ es4 h11 hw hm
            refine ⟨.tuple #[], _, ρ, ?_, k2, tup0⟩
            simp only [Builtin.delete_, h0, hx0, hx1, Sem.run_bind, hu, hgo, Result.andThen_ok, Sem.run_pure, q1, q2, k1]
          · subst e4; subst e5
            simp only [Nat.zero_add] at h8 q2
            obtain ⟨_, s6, h11, h12⟩ := M.bind_ok h8
            obtain ⟨rfl, rfl⟩ := pure_ok h12
            have hlt : p < arr.size := by
              have := (List.getElem?_eq_some_iff.1 g2).1
              simpa using this
            obtain ⟨k1, k2⟩ := map_set (arr' := arr.eraseIdxIfInBounds p) hr hg hρ es4 h11 hw (by
              have : (arr.eraseIdxIfInBounds p).toList = arr.toList.eraseIdx p := by
                unfold Array.eraseIdxIfInBounds
                rw [dif_pos hlt]
                simp
              rw [this]
              exact hm.erase p)
            refine ⟨.tuple #[], _, ρ, ?_, k2, tup0⟩
            simp only [Builtin.delete_, h0, hx0, hx1, Sem.run_bind, hu, hgo, Result.andThen_ok, Sem.run_pure, q1, q2, k1]
        · exact (fail_ok h4).elim
      · exact (fail_ok h2).elim
    all_goals (rw [hd] at h2; exact (fail_ok h2).elim)
  · exact (fail_ok h).elim
theorem entry_sim {a : AVal} (h : (entryM a).run s = .ok v s') (ho : OkObs s') (hr : Rel E.P ρ m s.heap.get w) {x : Value} (hx : R ρ m a x) :
    Out E.P ρ m s w s' v ((Instr.entry x).run E.P w) := by
  unfold entryM at h
  split at h
  · rename_i id off
    split at h
    · rename_i h0
      obtain rfl := Nat.eq_of_beq_eq_true h0
      obtain ⟨b, s1, h1, h2, ho1, _, _⟩ := M.bind_did h ho
      obtain ⟨hg, e1⟩ := get_ok h1
      split at h2
      · rename_i mm since seen last
        obtain ⟨c, s2, h3, h4, ho2, _, _⟩ := M.bind_did h2 ho
        obtain ⟨hg2, e2⟩ := get_ok h3
        split at h4
        · rename_i es ck
          cases hx with
          | ptr _ _ r hρ =>
            obtain ⟨rb, o, q1, q2, q3, q4⟩ := hr.live id _ hg
            rw [hρ] at q1
            injection q1 with q1
            subst q1
            cases q3 with
            | miter _ _ _ _ r2 hρ2 =>
              have hgo : (getObj r.b).run E.P w = .ok (.mapIter (some r2.b) since seen.toArray last) w := run_getObj_at q2 (fun _ _ _ h => by cases h)
              rw [e1.heap] at hg2
              obtain ⟨r3, arr, hxe, hρ3, hgo2, hw, hm⟩ := map_at hr hg2 (.map mm r2 hρ2)
              injection hxe with hxe
              injection hxe with hxe
              split at h4
              · rename_i hck
                have hck := Nat.eq_of_beq_eq_true hck
                subst hck
                obtain ⟨st, s3, h5, h6⟩ := M.bind_ok h4
                obtain ⟨hst, rfl⟩ := getO_ok h5
                obtain ⟨e, s4, h7, h8⟩ := M.bind_ok h6
                obtain ⟨hfe, rfl⟩ := getO_ok h7
                obtain ⟨rfl, rfl⟩ := pure_ok h8
                have find : ∀ {es : List Ent} {l : List MapEntry}, MEs ρ m es l → es.find? (fun e => e.2.2.beq st) = some e → ∃ z, l.find? (fun e => e.born == st) = some z ∧ ME ρ m e z := fun h => by
                  induction h with
                  | nil => intro q; cases q
                  | @cons e0 x0 es0 l0 hh t ih =>
                    intro q
                    rw [List.find?_cons] at q
                    have hb := hh.born
                    split at q
                    · rename_i c
                      injection q with q
                      subst q
                      refine ⟨_, ?_, hh⟩
                      rw [List.find?_cons, hb]
                      simp [Nat.eq_of_beq_eq_true c]
                    · rename_i c
                      obtain ⟨z, k1, k2⟩ := ih q
                      refine ⟨z, ?_, k2⟩
                      rw [List.find?_cons, hb]
                      have c2 : ¬ e0.2.2 = st := fun w => by rw [w, Nat.beq_refl] at c; cases c
                      simp only [beq_eq_false_iff_ne.2 c2]
                      exact k1
                obtain ⟨z, k1, k2⟩ := find hm hfe
                have k1' : arr.find? (fun e => e.born == st) = some z := by
                  rw [← Array.find?_toList]; exact k1
                have hback : seen.toArray.back? = some st := by
                  rw [← hst]; simp
                refine ⟨.tuple #[z.key, z.val], w, ρ, ?_, .of_same hr (e1.trans e2), ?_⟩
                · rw [hxe] at hgo
                  simp only [Instr.entry, Sem.run_bind, hgo, hgo2, Result.andThen_ok, hback, bne_self_eq_false, Bool.false_eq_true, if_false, k1', Sem.run_pure]
                · refine .tup _ _ rfl (fun i v y hv hy => ?_)
                  rcases i with _ | _ | i
                  · simp at hv hy; subst hv; subst hy; exact k2.key
                  · simp at hv hy; subst hv; subst hy; exact k2.val
                  · simp at hv
              · exact (fail_ok h4).elim
        · exact (fail_ok h4).elim
      · exact (fail_ok h2).elim
    · exact (fail_ok h).elim
  · exact (fail_ok h).elim
end
end Go.Am
