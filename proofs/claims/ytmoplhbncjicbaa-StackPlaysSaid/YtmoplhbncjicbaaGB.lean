/- What the statement reaches, gone through; and the abstract machine that goes through it. -/
import Derived.Test.YtmoplhbncjicbaaGA
import Derived.RangeFuncLeaves
import Derived.TacticsIn
import Derived.Below
import Derived.IntWalk
import Derived.OpenShut
import Derived.Laws.Externs
set_option linter.unusedSimpArgs false
set_option linter.unusedVariables false
namespace Go.Am
open Go
variable {E : Env}
section
variable {ρ : Ren} {m : Mem} {s s' : St} {w : World} {v : AVal}
theorem keyB_sim : ∀ (d k : Nat) {t : TypeId} {a : AVal} {u : Unit} {s s' : St}, (keyB E d t a).run s = .ok u s' → OkObs s' → ∀ {x : Value}, R ρ m a x → ∀ (w : World) (em : Bool),
    Same s s' ∧ (Instr.checkKey em (d + k) t x).run E.P w = .ok () w := by
  intro d
  induction d with
  | zero => intro k t a u s s' h; exact (fail_ok h).elim
  | succ d ih =>
    intro k t a u s s' h ho x hx w em
    obtain ⟨dd, s1, h1, h2⟩ := M.bind_ok h
    obtain ⟨⟨i, hi, rfl⟩, rfl⟩ := und_ok h1
    have hu := hi.run_und (w := w)
    have ek : d + 1 + k = (d + k) + 1 := by omega
    rw [ek]
    cases hd : i.desc with
    | bool =>
      rw [hd] at h2 hu
      obtain ⟨_, rfl⟩ := pure_ok h2
      exact ⟨.refl _, by simp only [Instr.checkKey, Sem.run_bind, hu, Result.andThen_ok, Sem.run_pure]⟩
    | int kk =>
      rw [hd] at h2 hu
      obtain ⟨_, rfl⟩ := pure_ok h2
      exact ⟨.refl _, by simp only [Instr.checkKey, Sem.run_bind, hu, Result.andThen_ok, Sem.run_pure]⟩
    | string =>
      rw [hd] at h2 hu
      obtain ⟨_, rfl⟩ := pure_ok h2
      exact ⟨.refl _, by simp only [Instr.checkKey, Sem.run_bind, hu, Result.andThen_ok, Sem.run_pure]⟩
    | struct fs =>
      rw [hd] at h2 hu
      obtain ⟨l, rfl, h3⟩ := agg_ok h2
      obtain ⟨xs, rfl, hxs⟩ := hx.agg_inv
      simp only [Instr.checkKey, Sem.run_bind, hu, Result.andThen_ok]
      rw [← Array.forIn_toList]
      clear h1 h2 h hx hu hi hd
      revert s1 s'
      induction fs.toList with
      | nil =>
        intro s' ho s1 h
        obtain ⟨_, rfl⟩ := pure_ok h
        exact ⟨.refl _, by simp⟩
      | cons f fl ihl =>
        intro s' ho s1 h
        obtain ⟨_, s2, h5, h6, ho2, _, _⟩ := M.bind_did h ho
        obtain ⟨e2, r2⟩ := ihl ho _ h6
        simp only at h5
        split at h5
        · rename_i hn
          have hn' : f.name = "_" := of_decide_eq_true hn
          obtain ⟨_, rfl⟩ := pure_ok h5
          refine ⟨e2, ?_⟩
          simp only [List.forIn_cons, hn', ne_eq, not_true_eq_false, if_false, Sem.run_bind, Sem.run_pure, Result.andThen_ok]
          simpa only [ne_eq, Sem.run_pure] using r2
        · rename_i hn
          have hn' : ¬ f.name = "_" := of_decide_eq_false hn
          obtain ⟨a1, s4, k1, k2⟩ := M.bind_ok h5
          obtain ⟨rfl, xa, k3, k4⟩ := part_sim k1 hxs w
          obtain ⟨e1, r1⟩ := ih k k2 ho2 k4 w em
          refine ⟨e1.trans e2, ?_⟩
          simp only [List.forIn_cons, ne_eq, hn', not_false_eq_true, if_true, Sem.run_bind, k3, r1, Sem.run_pure, Result.andThen_ok]
          simpa only [ne_eq, Sem.run_pure] using r2
    | array n e =>
      rw [hd] at h2 hu
      obtain ⟨l, rfl, h3⟩ := agg_ok h2
      obtain ⟨xs, rfl, hxs⟩ := hx.agg_inv
      obtain ⟨z, s2, h5, h6⟩ := M.bind_ok h3
      obtain ⟨⟨j, hj, rfl⟩, rfl⟩ := sizeOf_ok h5
      simp only [Instr.checkKey, Sem.run_bind, hu, Result.andThen_ok]
      rw [Std.Legacy.Range.forIn_eq_forIn_range']
      simp only [Std.Legacy.Range.size, Nat.sub_zero, Nat.add_sub_cancel, Nat.div_one, ← List.range_eq_range']
      clear h1 h2 h3 h5 h hx hu hi hd
      revert s2 s'
      induction List.range n with
      | nil =>
        intro s' ho s2 h
        obtain ⟨_, rfl⟩ := pure_ok h
        exact ⟨.refl _, by simp⟩
      | cons q ql ihl =>
        intro s' ho s2 h
        obtain ⟨_, s3, h5, h6, ho2, _, _⟩ := M.bind_did h ho
        obtain ⟨e2, r2⟩ := ihl ho _ h6
        obtain ⟨a1, s4, k1, k2⟩ := M.bind_ok h5
        obtain ⟨rfl, xa, k3, k4⟩ := part_sim k1 hxs w
        obtain ⟨e1, r1⟩ := ih k k2 ho2 k4 w em
        refine ⟨e1.trans e2, ?_⟩
        have hz : ∀ w : World, (Go.sizeOf e).run E.P w = .ok j.size w := fun w => hj.run_size
        simp only [List.forIn_cons, Sem.run_bind, hz, k3, r1, Sem.run_pure, Result.andThen_ok]
        simpa only [Sem.run_pure] using r2
    | _ => rw [hd] at h2; exact (fail_ok h2).elim
inductive MEs (ρ : Ren) (m : Mem) : List Ent → List MapEntry → Prop
  | nil : MEs ρ m [] []
  | cons {e : Ent} {x : MapEntry} {es : List Ent} {l : List MapEntry} (h : ME ρ m e x) (t : MEs ρ m es l) : MEs ρ m (e :: es) (x :: l)
theorem MEs.of : ∀ {es : List Ent} {l : List MapEntry}, es.length = l.length → (∀ (i : Nat) e x, es[i]? = some e → l[i]? = some x → ME ρ m e x) → MEs ρ m es l
  | [], [], _, _ => .nil
  | e :: es, x :: l, hl, h => .cons (h 0 e x rfl rfl) (MEs.of (by simpa using hl) fun i a b ha hb => h (i + 1) a b (by simpa using ha) (by simpa using hb))
  | [], _ :: _, hl, _ => by simp at hl
  | _ :: _, [], hl, _ => by simp at hl
theorem MEs.len {es : List Ent} {l : List MapEntry} (h : MEs ρ m es l) : es.length = l.length := by
  induction h with
  | nil => rfl
  | cons _ _ ih => simp [ih]
theorem MEs.get {es : List Ent} {l : List MapEntry} (h : MEs ρ m es l) : ∀ (i : Nat) e x, es[i]? = some e → l[i]? = some x → ME ρ m e x := by
  induction h with
  | nil => intro i e x he; simp at he
  | cons h t ih =>
    intro i e x he hx
    cases i with
    | zero => simp at he hx; subst he; subst hx; exact h
    | succ i => exact ih i e x (by simpa using he) (by simpa using hx)
theorem MEs.app {a b : List Ent} {x y : List MapEntry} (h : MEs ρ m a x) (h' : MEs ρ m b y) : MEs ρ m (a ++ b) (x ++ y) := by
  induction h with
  | nil => exact h'
  | cons h t ih => exact .cons h ih
def FoundR (es : List Ent) (l : List MapEntry) (i : Nat) (r : Option (Nat × AVal)) (r' : Option (Nat × Value)) : Prop :=
  (r = none ∧ r' = none) ∨ ∃ (p : Nat) (e : Ent) (x : MapEntry), es[p]? = some e ∧ l[p]? = some x ∧ r = some (i + p, e.2.1) ∧ r' = some (i + p, x.val)
theorem FoundR.cons {e : Ent} {x : MapEntry} {es : List Ent} {l : List MapEntry} {i : Nat} {r : Option (Nat × AVal)} {r' : Option (Nat × Value)} (h : FoundR es l (i + 1) r r') : FoundR (e :: es) (x :: l) i r r' := by
  rcases h with h | ⟨p, e', x', h1, h2, h3, h4⟩
  · exact .inl h
  · refine .inr ⟨p + 1, e', x', by simpa using h1, by simpa using h2, ?_, ?_⟩
    · rw [h3, Nat.add_assoc, Nat.add_comm 1 p]
    · rw [h4, Nat.add_assoc, Nat.add_comm 1 p]
theorem findAsking_sim {kt : TypeId} {k : AVal} {xk : Value} (hk : R ρ m k xk) (w : World) {es : List Ent} {l : List MapEntry} (he : MEs ρ m es l) : ∀ {i : Nat} {r : Option (Nat × AVal)} {s s' : St}, (findA E kt k es i).run s = .ok r s' → OkObs s' →
    Same s s' ∧ ∃ r', (Instr.findAsking kt xk l i).run E.P w = .ok r' w ∧ FoundR es l i r r' := by
  induction he with
  | nil =>
    intro i r s s' h ho
    obtain ⟨rfl, rfl⟩ := pure_ok h
    exact ⟨.refl _, none, rfl, .inl ⟨rfl, rfl⟩⟩
  | cons hx t ih =>
    rename_i e x es l
    intro i r s s' h ho
    obtain ⟨b, s1, h1, h2, ho1, _, _⟩ := M.bind_did h ho
    obtain ⟨e1, r1⟩ := equal_sim 100 9900 h1 ho1 hk hx.key w
    have r1' : (Op.equal kt xk x.key).run E.P w = .ok b w := r1
    cases b with
    | true =>
      obtain ⟨rfl, rfl⟩ := pure_ok h2
      refine ⟨e1, _, ?_, .inr ⟨0, e, x, rfl, rfl, rfl, rfl⟩⟩
      simp only [Instr.findAsking, Sem.run_bind, r1', Result.andThen_ok, if_true, Sem.run_pure, Nat.add_zero]
    | false =>
      obtain ⟨e2, r', k1, k2⟩ := ih h2 ho
      refine ⟨e1.trans e2, r', ?_, k2.cons⟩
      simp only [Instr.findAsking, Sem.run_bind, r1', Result.andThen_ok, Bool.false_eq_true, if_false, k1]
theorem sameNow_equal {P : Program} {kt : TypeId} {d : TypeDesc} (hu : ∀ w : World, (Go.underlying kt).run P w = .ok d w) {x y : Value} {c : Bool} (h : Instr.sameNow d x y = some c) (n : Nat) (w : World) : (Op.equalIn (n + 1) kt x y).run P w = .ok c w := by
  unfold Instr.sameNow at h
  split at h
  · split at h
    · rename_i hk
      subst hk
      injection h with h
      subst h
      simp only [Op.equalIn, Sem.run_bind, hu, Result.andThen_ok, if_true, Sem.run_pure]
    · cases h
  · injection h with h
    subst h
    simp only [Op.equalIn, Sem.run_bind, hu, Result.andThen_ok, if_true, Sem.run_pure]
  · injection h with h
    subst h
    simp only [Op.equalIn, Sem.run_bind, hu, Result.andThen_ok, if_true, Sem.run_pure]
  · cases h
theorem findNow_sim {kt : TypeId} {d : TypeDesc} (hu : ∀ w : World, (Go.underlying kt).run E.P w = .ok d w) {k : AVal} {xk : Value} (hk : R ρ m k xk) (w : World) {es : List Ent} {l : List MapEntry} (he : MEs ρ m es l) : ∀ {i : Nat} {r : Option (Nat × AVal)} {s s' : St}, (findA E kt k es i).run s = .ok r s' → OkObs s' →
    (Instr.findNow d xk l i = none) ∨ ∃ r', Instr.findNow d xk l i = some r' ∧ FoundR es l i r r' := by
  induction he with
  | nil =>
    intro i r s s' h ho
    obtain ⟨rfl, rfl⟩ := pure_ok h
    exact .inr ⟨none, rfl, .inl ⟨rfl, rfl⟩⟩
  | cons hx t ih =>
    rename_i e x es l
    intro i r s s' h ho
    obtain ⟨b, s1, h1, h2, ho1, _, _⟩ := M.bind_did h ho
    obtain ⟨e1, r1⟩ := equal_sim 100 9900 h1 ho1 hk hx.key w
    have r1' : (Op.equal kt xk x.key).run E.P w = .ok b w := r1
    cases hc : Instr.sameNow d xk x.key with
    | none => exact .inl (by simp only [Instr.findNow, hc])
    | some c =>
      have : (Op.equal kt xk x.key).run E.P w = .ok c w := sameNow_equal hu hc 9999 w
      rw [r1'] at this
      injection this with this
      subst this
      cases b with
      | true =>
        obtain ⟨rfl, rfl⟩ := pure_ok h2
        exact .inr ⟨_, by simp only [Instr.findNow, hc]; rfl, .inr ⟨0, e, x, rfl, rfl, rfl, rfl⟩⟩
      | false =>
        rcases ih h2 ho with q | ⟨r', k1, k2⟩
        · exact .inl (by simp only [Instr.findNow, hc]; exact q)
        · exact .inr ⟨r', by simp only [Instr.findNow, hc]; exact k1, k2.cons⟩
theorem findKey_sim {kt : TypeId} {d : TypeDesc} (hu : ∀ w : World, (Go.underlying kt).run E.P w = .ok d w) {k : AVal} {xk : Value} (hk : R ρ m k xk) (w : World) {es : List Ent} {l : List MapEntry} (he : MEs ρ m es l) {r : Option (Nat × AVal)} {s s' : St} (h : (findA E kt k es 0).run s = .ok r s') (ho : OkObs s') :
    Same s s' ∧ ∃ r', (Instr.findKey kt xk l).run E.P w = .ok r' w ∧ FoundR es l 0 r r' := by
  obtain ⟨e1, r', k1, k2⟩ := findAsking_sim hk w he h ho
  refine ⟨e1, ?_⟩
  rcases findNow_sim hu hk w he h ho with q | ⟨r2, q1, q2⟩
  · exact ⟨r', by simp only [Instr.findKey, Sem.run_bind, hu, Result.andThen_ok, q, k1], k2⟩
  · exact ⟨r2, by simp only [Instr.findKey, Sem.run_bind, hu, Result.andThen_ok, q1, Sem.run_pure], q2⟩
theorem RV.of : ∀ {l : List AVal} {xs : List Value}, l.length = xs.length → (∀ (i : Nat) v x, l[i]? = some v → xs[i]? = some x → R ρ m v x) → RV ρ m l xs
  | [], [], _, _ => .nil
  | v :: l, x :: xs, hl, h => .cons (h 0 v x rfl rfl) (RV.of (by simpa using hl) fun i a b ha hb => h (i + 1) a b (by simpa using ha) (by simpa using hb))
  | [], _ :: _, hl, _ => by simp at hl
  | _ :: _, [], hl, _ => by simp at hl
theorem RL.rv {l : List AVal} {c : Array Value} (h : RL ρ m l c) : RV ρ m l c.toList := RV.of (by simpa using h.len) fun i v x hv hx => h.at_ i v x hv (by simpa using hx)
theorem bytes_beq (l : List UInt8) : ((⟨⟨l⟩⟩ : ByteArray) == ⟨⟨l⟩⟩) = true := by rw [beq_toListBytes]; simp
theorem same1_ok {a b : AVal} (h : same1 a b = true) {x y : Value} (hx : R ρ m a x) (hy : R ρ m b y) (n : Nat) : a = b ∧ x = y ∧ Instr.sameBits n x y = true := by
  unfold same1 at h
  split at h
  · rename_i k a j b
    simp only [Bool.and_eq_true, decide_eq_true_eq, beq_iff_eq] at h
    obtain ⟨rfl, rfl⟩ := h
    obtain rfl := hx.int_inv
    obtain rfl := hy.int_inv
    exact ⟨rfl, rfl, by cases n <;> simp [Instr.sameBits]⟩
  · rename_i a b
    simp only [beq_iff_eq] at h
    subst h
    obtain rfl := hx.str_inv
    obtain rfl := hy.str_inv
    exact ⟨rfl, rfl, by cases n <;> simp [Instr.sameBits, bytes_beq]⟩
  · cases h
theorem all2_ok : ∀ {a b : List AVal}, all2 a b = true → ∀ {x y : List Value}, RV ρ m a x → RV ρ m b y → ∀ n, a = b ∧ x = y ∧ (x.zip y).all (fun (p : Value × Value) => Instr.sameBits n p.1 p.2) = true
  | [], [], _, x, y, hx, hy, n => by cases hx; cases hy; exact ⟨rfl, rfl, rfl⟩
  | a :: l, b :: l', h, x, y, hx, hy, n => by
    cases hx with
    | cons h1 t1 =>
      cases hy with
      | cons h2 t2 =>
        simp only [all2, Bool.and_eq_true] at h
        obtain ⟨rfl, rfl, q⟩ := same1_ok h.1 h1 h2 n
        obtain ⟨rfl, rfl, q2⟩ := all2_ok h.2 t1 t2 n
        exact ⟨rfl, rfl, by simp only [List.zip_cons_cons, List.all_cons, q, q2, Bool.and_self]⟩
  | [], _ :: _, h, _, _, _, _, _ => by cases h
  | _ :: _, [], h, _, _, _, _, _ => by cases h
theorem sameKey_ok {a b : AVal} (h : sameKey a b = true) {x y : Value} (hx : R ρ m a x) (hy : R ρ m b y) (w : World) : a = b ∧ x = y ∧ (Instr.keyThatStays x y).run E.P w = .ok y w := by
  have fin : Instr.sameBits 10000 x y = true → (Instr.keyThatStays x y).run E.P w = .ok y w := fun q => by
    simp only [Instr.keyThatStays, q, if_true, Sem.run_pure]
  unfold sameKey at h
  split at h
  · rename_i a b
    obtain ⟨xs, rfl, hxs⟩ := hx.agg_inv
    obtain ⟨ys, rfl, hys⟩ := hy.agg_inv
    obtain ⟨rfl, e, q⟩ := all2_ok h (x := xs.toList) (y := ys.toList) hxs.rv hys.rv 9999
    have e' : xs = ys := Array.toList_inj.1 e
    subst e'
    refine ⟨rfl, rfl, fin ?_⟩
    have : Instr.sameBits (9999 + 1) (.agg xs) (.agg xs) = (xs.size == xs.size && (xs.toList.zip xs.toList).all fun (x, y) => Instr.sameBits 9999 x y) := rfl
    rw [this]
    simp only [beq_self_eq_true, Bool.true_and]
    exact q
  · obtain ⟨e, e2, q⟩ := same1_ok h hx hy 10000
    exact ⟨e, e2, fin q⟩
  · obtain ⟨e, e2, q⟩ := same1_ok h hx hy 10000
    exact ⟨e, e2, fin q⟩
  · cases h
theorem map_at {id : Nat} {es : List Ent} {ck : Nat} (hr : Rel E.P ρ m s.heap.get w) (hg : s.heap.get id = some (.map es ck)) {x : Value} (hx : R ρ m (.map id) x) :
    ∃ r arr, x = .map (some r.b) ∧ ρ id = some r ∧ (getObj r.b).run E.P w = .ok (.map arr ck) w ∧ w.heap[r.b]? = some (.map arr ck) ∧ MEs ρ m es arr.toList := by
  cases hx with
  | map _ r hρ =>
    obtain ⟨rb, o, q1, q2, q3, q4⟩ := hr.live id _ hg
    rw [hρ] at q1
    injection q1 with q1
    subst q1
    cases q3 with
    | map _ _ arr hl hra =>
      exact ⟨r, arr, rfl, hρ, run_getObj_at q2 (fun _ _ _ h => by cases h), q2, MEs.of (by simpa using hl) fun i e x he hx => hra i e x he (by simpa using hx)⟩
theorem map_set {id : Nat} {es es' : List Ent} {ck ck' : Nat} {s1 : St} {u : Unit} {r : RB} {arr arr' : Array MapEntry} (hr : Rel E.P ρ m s.heap.get w) (hg : s.heap.get id = some (.map es ck)) (hρ : ρ id = some r) (e : Same s s1)
    (h : (setB id (.map es' ck')).run s1 = .ok u s') (hw : w.heap[r.b]? = some (.map arr ck)) (hm : MEs ρ m es' arr'.toList) :
    (setObj r.b (.map arr' ck')).run E.P w = .ok () (World.upd w r.b (.map arr' ck')) ∧ Post E.P ρ m s w ρ m s' (World.upd w r.b (.map arr' ck')) := by
  obtain ⟨_, hn, hset⟩ := set_ok h
  refine ⟨run_setObj_upd hw (fun _ _ _ h => by cases h), .refl ρ, fun _ h => .inl h, fun _ _ h => h,
    hr.upd hg hρ (.map r es' ck' arr' (by simpa using hm.len) fun i e x he hx => hm.get i e x he (by simpa using hx)) (fun j => by rw [hset j, e.heap]), World.upd_fr _ _ _, by rw [hn, e.next]; exact Nat.le_refl _⟩
theorem okV_sim {ok is : Bool} {a : AVal} {x : Value} (hx : R ρ m a x) : R ρ m (okV ok a is) (if ok then .tuple #[x, .bool is] else x) := by
  cases ok with
  | false => exact hx
  | true =>
    refine .tup _ _ rfl (fun i v y hv hy => ?_)
    rcases i with _ | _ | i
    · simp at hv hy; subst hv; subst hy; exact hx
    · simp at hv hy; subst hv; subst hy; exact .blit _
    · simp at hv
theorem makeMap_sim {t : TypeId} {r : Option AVal} {r' : Option Value} (h : (makeMapM r).run s = .ok v s') (hr : Rel E.P ρ m s.heap.get w) (hf : Fresh ρ s s') (hn : r = none → r' = none) :
    Out E.P ρ m s w s' v ((Instr.makeMap t r').run E.P w) := by
  unfold makeMapM at h
  split at h
  · rw [hn rfl]
    obtain ⟨id, s1, h1, h2⟩ := M.bind_ok h
    obtain ⟨rfl, rfl⟩ := pure_ok h2
    obtain ⟨_, hp⟩ := newObj_sim h1 hr hf (.map #[] 0) 0 0 (fun _ _ => .map _ [] 0 #[] rfl (fun i e x he => by simp at he))
    refine ⟨_, _, _, ?_, hp, .map id ⟨w.heap.size, 0, 0⟩ (by simp [Ren.put])⟩
    simp only [Instr.makeMap, Sem.run_bind, Result.andThen_ok, Sem.run_pure, run_newObj_alloc]
  · exact (fail_ok h).elim
theorem keyB_und {d : Nat} {t : TypeId} {a : AVal} {u : Unit} (h : (keyB E d t a).run s = .ok u s') : ∃ i, TOk E.P t i := by
  cases d with
  | zero => exact (fail_ok h).elim
  | succ d =>
    obtain ⟨dd, s1, h1, h2⟩ := M.bind_ok h
    obtain ⟨⟨i, hi, rfl⟩, rfl⟩ := und_ok h1
    exact ⟨i, hi⟩
theorem lookup_sim {t : TypeId} {a k : AVal} {ok : Bool} (h : (lookupM E t a k ok).run s = .ok v s') (ho : OkObs s') (hr : Rel E.P ρ m s.heap.get w) {x y : Value} (hx : R ρ m a x) (hy : R ρ m k y) :
    Out E.P ρ m s w s' v ((Instr.lookup t x y ok).run E.P w) := by
  obtain ⟨d, s1, h1, h2⟩ := M.bind_ok h
  obtain ⟨⟨i, hi, rfl⟩, rfl⟩ := und_ok h1
  have hu := hi.run_und (w := w)
  cases hd : i.desc
  case map kt et =>
    rw [hd] at h2 hu
    obtain ⟨es, s2, h3, h4, ho2, _, _⟩ := M.bind_did h2 ho
    obtain ⟨u, s3, h5, h6, ho3, _, _⟩ := M.bind_did h4 ho
    obtain ⟨rr, s4, h7, h8, ho4, _, _⟩ := M.bind_did h6 ho
    obtain ⟨i2, hi2⟩ := keyB_und h5
    have fin : ∀ (arr : Array MapEntry), Same s1 s2 → MEs ρ m es arr.toList → (Instr.checkKey arr.isEmpty 10000 kt y).run E.P w = .ok () w ∧
        ((∃ zv, (Instr.findKey kt y arr.toList).run E.P w = .ok none w ∧ (zeroValue et).run E.P w = .ok zv w ∧ Out E.P ρ m s1 w s' v (.ok (if ok then .tuple #[zv, .bool false] else zv) w)) ∨
         (∃ n zv, (Instr.findKey kt y arr.toList).run E.P w = .ok (some (n, zv)) w ∧ Out E.P ρ m s1 w s' v (.ok (if ok then .tuple #[zv, .bool true] else zv) w))) := fun arr e0 hm => by
      obtain ⟨e1, q1⟩ := keyB_sim 100 9900 h5 ho3 hy w arr.isEmpty
      obtain ⟨e2, r', q2, q3⟩ := findKey_sim (fun w => hi2.run_und (w := w)) hy w hm h7 ho4
      refine ⟨q1, ?_⟩
      rcases q3 with ⟨e3, e4⟩ | ⟨p, e, z, g1, g2, e3, e4⟩
      · subst e3; subst e4
        obtain ⟨z, s5, h9, h10⟩ := M.bind_ok h8
        obtain ⟨⟨j, hj, rfl⟩, rfl⟩ := zeroOf_ok h9
        obtain ⟨rfl, rfl⟩ := pure_ok h10
        obtain ⟨zv, hz, hzi⟩ := hj.run_zero (w := w)
        exact .inl ⟨zv, q2, hz, .same hr (e0.trans (e1.trans e2)) (okV_sim (hzi ▸ ofValue_junk zv))⟩
      · subst e3; subst e4
        obtain ⟨rfl, rfl⟩ := pure_ok h8
        exact .inr ⟨_, _, q2, .same hr (e0.trans (e1.trans e2)) (okV_sim (hm.get p e z g1 g2).val)⟩
    unfold entsOf at h3
    split at h3
    · obtain ⟨rfl, rfl⟩ := pure_ok h3
      cases hx
      obtain ⟨q1, q⟩ := fin #[] (.refl _) .nil
      have q1 : (Instr.checkKey true 10000 kt y).run E.P w = .ok () w := q1
      have el : (#[] : Array MapEntry).toList = [] := rfl
      rw [el] at q
      rcases q with ⟨zv, q2, q3, q4⟩ | ⟨n, zv, q2, q4⟩
      · obtain ⟨xx, ww, rr, h9, h10, h11⟩ := q4
        refine ⟨xx, ww, rr, ?_, h10, h11⟩
        rw [← h9]
        simp only [Instr.lookup, Sem.run_bind, hu, Result.andThen_ok, Sem.run_pure, Array.isEmpty_empty, q1, q2, q3, Array.toList_empty]
      · obtain ⟨xx, ww, rr, h9, h10, h11⟩ := q4
        refine ⟨xx, ww, rr, ?_, h10, h11⟩
        rw [← h9]
        simp only [Instr.lookup, Sem.run_bind, hu, Result.andThen_ok, Sem.run_pure, Array.isEmpty_empty, q1, q2, Array.toList_empty]
    · rename_i id
      obtain ⟨b, s5, h9, h10⟩ := M.bind_ok h3
      obtain ⟨hg, e1⟩ := get_ok h9
      unfold mapK at h10
      split at h10
      · rename_i es' ck
        obtain ⟨rfl, rfl⟩ := pure_ok h10
        obtain ⟨r, arr, rfl, hρ, hgo, hw, hm⟩ := map_at hr hg hx
        obtain ⟨q1, q⟩ := fin arr e1 hm
        rcases q with ⟨zv, q2, q3, q4⟩ | ⟨n, zv, q2, q4⟩
        · obtain ⟨xx, ww, rr, h9, h10, h11⟩ := q4
          refine ⟨xx, ww, rr, ?_, h10, h11⟩
          rw [← h9]
          simp only [Instr.lookup, Sem.run_bind, hu, hgo, Result.andThen_ok, Sem.run_pure, q1, q2, q3]
        · obtain ⟨xx, ww, rr, h9, h10, h11⟩ := q4
          refine ⟨xx, ww, rr, ?_, h10, h11⟩
          rw [← h9]
          simp only [Instr.lookup, Sem.run_bind, hu, hgo, Result.andThen_ok, Sem.run_pure, q1, q2]
      · exact (fail_ok h10).elim
    · exact (fail_ok h3).elim
  all_goals (rw [hd] at h2; exact (fail_ok h2).elim)
theorem MEs.modify {es : List Ent} {arr : Array MapEntry} (h : MEs ρ m es arr.toList) {p : Nat} {f : Ent → Ent} {g : MapEntry → MapEntry} (hfg : ∀ e x, es[p]? = some e → arr[p]? = some x → ME ρ m (f e) (g x)) : MEs ρ m (es.modify p f) (arr.modify p g).toList := by
  have hl := h.len
  refine MEs.of (by simpa using hl) fun i e x he hx => ?_
  rw [Array.getElem?_toList, Array.getElem?_modify] at hx
  rw [List.getElem?_modify] at he
  by_cases c : p = i
  · subst c
    rw [if_pos rfl] at hx
    cases h1 : es[p]? with
    | none => rw [h1] at he; cases he
    | some e0 =>
      cases h2 : arr[p]? with
      | none => rw [h2] at hx; cases hx
      | some x0 =>
        rw [h1] at he
        rw [h2] at hx
        simp at he
        injection hx with hx
        subst he; subst hx
        exact hfg e0 x0 h1 h2
  · rw [if_neg c] at hx
    cases h1 : es[i]? with
    | none => rw [h1] at he; cases he
    | some e0 =>
      rw [h1] at he
      simp [c] at he
      subst he
      exact h.get i e0 x h1 (by rw [Array.getElem?_toList]; exact hx)
theorem MEs.erase {es : List Ent} {l : List MapEntry} (h : MEs ρ m es l) : ∀ p, MEs ρ m (es.eraseIdx p) (l.eraseIdx p) := by
  induction h with
  | nil => intro p; exact .nil
  | cons h t ih =>
    intro p
    cases p with
    | zero => exact t
    | succ p => exact .cons h (ih p)
theorem born_sim {n : Int} {es : List Ent} {l : List MapEntry} (h : MEs ρ m es l) : ∀ {i j : Nat}, bornAt n es i = some j → ∃ p, j = i + p ∧ l.findIdx? (fun e => (e.born : Int) == n) = some p ∧ p < l.length := by
  induction h with
  | nil => intro i j h; cases h
  | cons hx t ih =>
    rename_i e x es l
    intro i j h
    unfold bornAt at h
    have hb := hx.born
    split at h
    · rename_i q
      injection h with h
      exact ⟨0, by omega, by rw [List.findIdx?_cons, hb]; simp [q], by simp⟩
    · rename_i q
      obtain ⟨p, h1, h2, h3⟩ := ih h
      exact ⟨p + 1, by omega, by rw [List.findIdx?_cons, hb, q]; simp [h2], by simpa using h3⟩
theorem mapEntry_sim {t : TypeId} {a k : AVal} (h : (mapEntryM E t a k).run s = .ok v s') (ho : OkObs s') (hr : Rel E.P ρ m s.heap.get w) {x y : Value} (hx : R ρ m a x) (hy : R ρ m k y) :
    Out E.P ρ m s w s' v ((Instr.mapEntry t x y).run E.P w) := by
  obtain ⟨d, s1, h1, h2⟩ := M.bind_ok h
  obtain ⟨⟨i, hi, rfl⟩, rfl⟩ := und_ok h1
  have hu := hi.run_und (w := w)
  cases hd : i.desc
  case map kt et =>
    rw [hd] at h2 hu
    simp only at h2
    split at h2
    · rename_i id
      obtain ⟨b, s2, h3, h4, ho2, _, _⟩ := M.bind_did h2 ho
      obtain ⟨hg, e1⟩ := get_ok h3
      unfold mapK at h4
      split at h4
      · rename_i es ck
        obtain ⟨r, arr, rfl, hρ, hgo, hw, hm⟩ := map_at hr hg hx
        obtain ⟨u, s3, h5, h6, ho3, _, _⟩ := M.bind_did h4 ho
        obtain ⟨rr, s4, h7, h8, ho4, _, _⟩ := M.bind_did h6 ho
        obtain ⟨i2, hi2⟩ := keyB_und h5
        obtain ⟨e2, q1⟩ := keyB_sim 100 9900 h5 ho3 hy w false
        obtain ⟨e3, r', q2, q3⟩ := findKey_sim (fun w => hi2.run_und (w := w)) hy w hm h7 ho4
        have q1 : (Instr.checkKey false 10000 kt y).run E.P w = .ok () w := q1
        have es4 := e1.trans (e2.trans e3)
        rcases q3 with ⟨e4, e5⟩ | ⟨p, e, z, g1, g2, e4, e5⟩
        · subst e4; subst e5
          obtain ⟨z, s5, h9, h10⟩ := M.bind_ok h8
          obtain ⟨⟨j, hj, rfl⟩, rfl⟩ := zeroOf_ok h9
          obtain ⟨_, s6, h11, h12⟩ := M.bind_ok h10
          obtain ⟨rfl, rfl⟩ := pure_ok h12
          obtain ⟨zv, hz, hzi⟩ := hj.run_zero (w := w)
          obtain ⟨k1, k2⟩ := map_set (arr' := arr.push { key := y, val := zv, born := ck }) hr hg hρ es4 h11 hw (by rw [Array.toList_push]; exact hm.app (.cons ⟨hy, hzi ▸ ofValue_junk zv, rfl⟩ .nil))
          refine ⟨.tuple #[zv, goInt ck], _, ρ, ?_, k2, ?_⟩
          · simp only [Instr.mapEntry, Sem.run_bind, hu, hgo, Result.andThen_ok, Sem.run_pure, q1, q2, hz, k1]
          · refine .tup _ _ rfl (fun i v y hv hy => ?_)
            rcases i with _ | _ | i
            · simp at hv hy; subst hv; subst hy; exact hzi ▸ ofValue_junk zv
            · simp at hv hy; subst hv; subst hy; exact .int _ _
            · simp at hv
        · subst e4; subst e5
          simp only [Nat.zero_add] at h8 q2
          obtain ⟨e', s5, h9, h10⟩ := M.bind_ok h8
          obtain ⟨h9', rfl⟩ := getO_ok h9
          rw [g1] at h9'
          injection h9' with h9'
          subst h9'
          have hz := hm.get p e z g1 g2
          rw [Array.getElem?_toList] at g2
          split at h10
          · rename_i hsk
            obtain ⟨ek, ez, hst⟩ := sameKey_ok (E := E) hsk hz.key hy w
            obtain ⟨_, s6, h11, h12⟩ := M.bind_ok h10
            obtain ⟨rfl, rfl⟩ := pure_ok h12
            have hmm : MEs ρ m es (arr.modify p fun e => { e with key := y }).toList := by
              have := hm.modify (p := p) (f := fun e => e) (g := fun e => { e with key := y }) fun e0 x0 h1 h2 => by
                rw [g1] at h1; rw [g2] at h2
                injection h1 with h1; injection h2 with h2
                subst h1; subst h2
                exact ⟨ez ▸ hz.key, hz.val, hz.born⟩
              have hid : es.modify p (fun e => e) = es := by
                refine List.ext_getElem? fun i => ?_
                rw [List.getElem?_modify]
                split <;> simp
              rwa [hid] at this
            obtain ⟨k1, k2⟩ := map_set (arr' := arr.modify p fun e => { e with key := y }) hr hg hρ es4 h11 hw hmm
            refine ⟨.tuple #[z.val, goInt z.born], _, ρ, ?_, k2, ?_⟩
            · simp only [Instr.mapEntry, Sem.run_bind, hu, hgo, Result.andThen_ok, Sem.run_pure, q1, q2, g2, Option.map_some, Option.getD_some, hst, k1]
            · refine .tup _ _ rfl (fun i v y hv hy => ?_)
              rcases i with _ | _ | i
              · simp at hv hy; subst hv; subst hy; exact hz.val
              · simp at hv hy; subst hv; subst hy; rw [hz.born]; exact .int _ _
              · simp at hv
          · exact (fail_ok h10).elim
      · exact (fail_ok h4).elim
    · exact (fail_ok h2).elim
  all_goals (rw [hd] at h2; exact (fail_ok h2).elim)
def OutU (P : Program) (ρ : Ren) (m : Mem) (s : St) (w : World) (s' : St) (res : Result Unit) : Prop := ∃ w' ρ', res = .ok () w' ∧ Post P ρ m s w ρ' m s' w'
theorem entryStore_sim {t : TypeId} {a st b : AVal} (h : (entryStoreM a st b).run s = .ok v s') (ho : OkObs s') (hr : Rel E.P ρ m s.heap.get w) {x y z : Value} (hx : R ρ m a x) (hy : R ρ m st y) (hz : R ρ m b z) :
    v = undef ∧ OutU E.P ρ m s w s' ((Instr.entryStore t x y z).run E.P w) := by
  unfold entryStoreM at h
  split at h
  · rename_i id
    obtain ⟨b0, s2, h3, h4, ho2, _, _⟩ := M.bind_did h ho
    obtain ⟨hg, e1⟩ := get_ok h3
    unfold mapK at h4
    split at h4
    · rename_i es ck
      obtain ⟨r, arr, rfl, hρ, hgo, hw, hm⟩ := map_at hr hg hx
      obtain ⟨q, n, rfl, h5⟩ := int_ok h4
      obtain rfl := hy.int_inv
      obtain ⟨i, s3, h6, h7⟩ := M.bind_ok h5
      obtain ⟨h6', rfl⟩ := getO_ok h6
      obtain ⟨p, hp, hfi, hlt⟩ := born_sim hm h6'
      rw [Nat.zero_add] at hp
      subst hp
      obtain ⟨_, s4, h8, h9⟩ := M.bind_ok h7
      obtain ⟨rfl, rfl⟩ := pure_ok h9
      obtain ⟨k1, k2⟩ := map_set (arr' := arr.modify i fun e => { e with val := z }) hr hg hρ e1 h8 hw (hm.modify fun e0 x0 h1 h2 => by
        have := hm.get i e0 x0 h1 (by rw [Array.getElem?_toList]; exact h2)
        exact ⟨this.key, hz, this.born⟩)
      have hfi' : arr.findIdx? (fun e => (e.born : Int) == n) = some i := by
        rw [← hfi]
        cases arr
        simp
      refine ⟨rfl, _, ρ, ?_, k2⟩
      simp only [Instr.entryStore, Sem.run_bind, hgo, Result.andThen_ok, Sem.run_pure, asInt, asIntOf, hfi', k1]
    · exact (fail_ok h4).elim
  · exact (fail_ok h).elim
theorem mapUpdate_sim {t : TypeId} {a k b : AVal} (h : (mapUpdateM E t a k b).run s = .ok v s') (ho : OkObs s') (hr : Rel E.P ρ m s.heap.get w) {x y z : Value} (hx : R ρ m a x) (hy : R ρ m k y) (hz : R ρ m b z) :
    v = undef ∧ OutU E.P ρ m s w s' ((Instr.mapUpdate t x y z).run E.P w) := by
  obtain ⟨d, s1, h1, h2⟩ := M.bind_ok h
  obtain ⟨⟨i, hi, rfl⟩, rfl⟩ := und_ok h1
  have hu := hi.run_und (w := w)
  cases hd : i.desc
  case map kt et =>
    rw [hd] at h2 hu
    simp only at h2
    split at h2
    · rename_i id
      obtain ⟨b, s2, h3, h4, ho2, _, _⟩ := M.bind_did h2 ho
      obtain ⟨hg, e1⟩ := get_ok h3
      unfold mapK at h4
      split at h4
      · rename_i es ck
        obtain ⟨r, arr, rfl, hρ, hgo, hw, hm⟩ := map_at hr hg hx
        obtain ⟨u, s3, h5, h6, ho3, _, _⟩ := M.bind_did h4 ho
        obtain ⟨rr, s4, h7, h8, ho4, _, _⟩ := M.bind_did h6 ho
        obtain ⟨i2, hi2⟩ := keyB_und h5
        obtain ⟨e2, q1⟩ := keyB_sim 100 9900 h5 ho3 hy w false
        obtain ⟨e3, r', q2, q3⟩ := findKey_sim (fun w => hi2.run_und (w := w)) hy w hm h7 ho4
        have q1 : (Instr.checkKey false 10000 kt y).run E.P w = .ok () w := q1
        have es4 := e1.trans (e2.trans e3)
        rcases q3 with ⟨e4, e5⟩ | ⟨p, e, z', g1, g2, e4, e5⟩
        · subst e4; subst e5
          obtain ⟨_, s6, h11, h12⟩ := M.bind_ok h8
          obtain ⟨rfl, rfl⟩ := pure_ok h12
          obtain ⟨k1, k2⟩ := map_set (arr' := arr.push { key := y, val := z, born := ck }) hr hg hρ es4 h11 hw (by rw [Array.toList_push]; exact hm.app (.cons ⟨hy, hz, rfl⟩ .nil))
          refine ⟨rfl, _, ρ, ?_, k2⟩
          simp only [Instr.mapUpdate, Sem.run_bind, hu, hgo, Result.andThen_ok, Sem.run_pure, q1, q2, k1]
        · subst e4; subst e5
          simp only [Nat.zero_add] at h8 q2
          obtain ⟨e', s5, h9, h10⟩ := M.bind_ok h8
          obtain ⟨h9', rfl⟩ := getO_ok h9
          rw [g1] at h9'
          injection h9' with h9'
          subst h9'
          have hz' := hm.get p e z' g1 g2
          rw [Array.getElem?_toList] at g2
          split at h10
          · rename_i hsk
            obtain ⟨ek, ez, hst⟩ := sameKey_ok (E := E) hsk hz'.key hy w
            obtain ⟨_, s6, h11, h12⟩ := M.bind_ok h10
            obtain ⟨rfl, rfl⟩ := pure_ok h12
            obtain ⟨k1, k2⟩ := map_set (arr' := arr.modify p fun e => { e with key := y, val := z }) hr hg hρ es4 h11 hw (hm.modify fun e0 x0 h1 h2 => by
              rw [g1] at h1; rw [g2] at h2
              injection h1 with h1; injection h2 with h2
              subst h1; subst h2
              exact ⟨ez ▸ hz'.key, hz, hz'.born⟩)
            refine ⟨rfl, _, ρ, ?_, k2⟩
            simp only [Instr.mapUpdate, Sem.run_bind, hu, hgo, Result.andThen_ok, Sem.run_pure, q1, q2, g2, Option.map_some, Option.getD_some, hst, k1]
          · exact (fail_ok h10).elim
      · exact (fail_ok h4).elim
    · exact (fail_ok h2).elim
  all_goals (rw [hd] at h2; exact (fail_ok h2).elim)
theorem bDelete_sim {ts : List TypeId} {ty : TypeId} {a k : AVal} (h : (bDelete E ts a k).run s = .ok v s') (ho : OkObs s') (hr : Rel E.P ρ m s.heap.get w) {x y : Value} (hx : R ρ m a x) (hy : R ρ m k y) :
    Out E.P ρ m s w s' v ((Builtin.delete_ ts.toArray ty #[x, y]).run E.P w) := by
  have tup0 : R ρ m (.tup []) (.tuple #[]) := .tup _ _ rfl (fun i v x hv => by simp at hv)
  unfold bDelete at h
  split at h
  · rename_i t tl
    have h0 : ((t :: tl).toArray : Array TypeId)[0]? = some t := rfl
    have hx0 : (#[x, y] : Array Value)[0]? = some x := rfl
    have hx1 : (#[x, y] : Array Value)[1]? = some y := rfl
    obtain ⟨d, s1, h1, h2⟩ := M.bind_ok h
    obtain ⟨⟨i, hi, rfl⟩, rfl⟩ := und_ok h1
    have hu := hi.run_und (w := w)
    cases hd : i.desc
    case map kt et =>
      rw [hd] at h2 hu
      simp only at h2
      split at h2
      · rename_i id
        obtain ⟨b, s2, h3, h4, ho2, _, _⟩ := M.bind_did h2 ho
        obtain ⟨hg, e1⟩ := get_ok h3
        unfold mapK at h4
        split at h4
        · rename_i es ck
          obtain ⟨r, arr, rfl, hρ, hgo, hw, hm⟩ := map_at hr hg hx
          obtain ⟨u, s3, h5, h6, ho3, _, _⟩ := M.bind_did h4 ho
          obtain ⟨rr, s4, h7, h8, ho4, _, _⟩ := M.bind_did h6 ho
          obtain ⟨i2, hi2⟩ := keyB_und h5
          obtain ⟨e2, q1⟩ := keyB_sim 100 9900 h5 ho3 hy w arr.isEmpty
          obtain ⟨e3, r', q2, q3⟩ := findKey_sim (fun w => hi2.run_und (w := w)) hy w hm h7 ho4
          have q1 : (Instr.checkKey arr.isEmpty 10000 kt y).run E.P w = .ok () w := q1
          have es4 := e1.trans (e2.trans e3)
          rcases q3 with ⟨e4, e5⟩ | ⟨p, e, z', g1, g2, e4, e5⟩
          · subst e4; subst e5
            obtain ⟨_, s6, h11, h12⟩ := M.bind_ok h8
            obtain ⟨rfl, rfl⟩ := pure_ok h12
            obtain ⟨k1, k2⟩ := map_set (arr' := arr) hr hg hρ es4 h11 hw hm
            refine ⟨.tuple #[], _, ρ, ?_, k2, tup0⟩
            simp only [Builtin.delete_, h0, hx0, hx1, Sem.run_bind, hu, hgo, Result.andThen_ok, Sem.run_pure, q1, q2, k1]
          · subst e4; subst e5
            simp only [Nat.zero_add] at h8 q2
            obtain ⟨_, s6, h11, h12⟩ := M.bind_ok h8
            obtain ⟨rfl, rfl⟩ := pure_ok h12
            have hlt : p < arr.size := by
              have := (List.getElem?_eq_some_iff.1 g2).1
              simpa using this
            obtain ⟨k1, k2⟩ := map_set (arr' := arr.eraseIdxIfInBounds p) hr hg hρ es4 h11 hw (by
              have : (arr.eraseIdxIfInBounds p).toList = arr.toList.eraseIdx p := by
                unfold Array.eraseIdxIfInBounds
                rw [dif_pos hlt]
                simp
              rw [this]
              exact hm.erase p)
            refine ⟨.tuple #[], _, ρ, ?_, k2, tup0⟩
            simp only [Builtin.delete_, h0, hx0, hx1, Sem.run_bind, hu, hgo, Result.andThen_ok, Sem.run_pure, q1, q2, k1]
        · exact (fail_ok h4).elim
      · exact (fail_ok h2).elim
    all_goals (rw [hd] at h2; exact (fail_ok h2).elim)
  · exact (fail_ok h).elim
theorem entry_sim {a : AVal} (h : (entryM a).run s = .ok v s') (ho : OkObs s') (hr : Rel E.P ρ m s.heap.get w) {x : Value} (hx : R ρ m a x) :
    Out E.P ρ m s w s' v ((Instr.entry x).run E.P w) := by
  unfold entryM at h
  split at h
  · rename_i id off
    split at h
    · rename_i h0
      obtain rfl := Nat.eq_of_beq_eq_true h0
      obtain ⟨b, s1, h1, h2, ho1, _, _⟩ := M.bind_did h ho
      obtain ⟨hg, e1⟩ := get_ok h1
      split at h2
      · rename_i mm since seen last
        obtain ⟨c, s2, h3, h4, ho2, _, _⟩ := M.bind_did h2 ho
        obtain ⟨hg2, e2⟩ := get_ok h3
        split at h4
        · rename_i es ck
          cases hx with
          | ptr _ _ r hρ =>
            obtain ⟨rb, o, q1, q2, q3, q4⟩ := hr.live id _ hg
            rw [hρ] at q1
            injection q1 with q1
            subst q1
            cases q3 with
            | miter _ _ _ _ r2 hρ2 =>
              have hgo : (getObj r.b).run E.P w = .ok (.mapIter (some r2.b) since seen.toArray last) w := run_getObj_at q2 (fun _ _ _ h => by cases h)
              rw [e1.heap] at hg2
              obtain ⟨r3, arr, hxe, hρ3, hgo2, hw, hm⟩ := map_at hr hg2 (.map mm r2 hρ2)
              injection hxe with hxe
              injection hxe with hxe
              split at h4
              · rename_i hck
                have hck := Nat.eq_of_beq_eq_true hck
                subst hck
                obtain ⟨st, s3, h5, h6⟩ := M.bind_ok h4
                obtain ⟨hst, rfl⟩ := getO_ok h5
                obtain ⟨e, s4, h7, h8⟩ := M.bind_ok h6
                obtain ⟨hfe, rfl⟩ := getO_ok h7
                obtain ⟨rfl, rfl⟩ := pure_ok h8
                have find : ∀ {es : List Ent} {l : List MapEntry}, MEs ρ m es l → es.find? (fun e => e.2.2.beq st) = some e → ∃ z, l.find? (fun e => e.born == st) = some z ∧ ME ρ m e z := fun h => by
                  induction h with
                  | nil => intro q; cases q
                  | @cons e0 x0 es0 l0 hh t ih =>
                    intro q
                    rw [List.find?_cons] at q
                    have hb := hh.born
                    split at q
                    · rename_i c
                      injection q with q
                      subst q
                      refine ⟨_, ?_, hh⟩
                      rw [List.find?_cons, hb]
                      simp [Nat.eq_of_beq_eq_true c]
                    · rename_i c
                      obtain ⟨z, k1, k2⟩ := ih q
                      refine ⟨z, ?_, k2⟩
                      rw [List.find?_cons, hb]
                      have c2 : ¬ e0.2.2 = st := fun w => by rw [w, Nat.beq_refl] at c; cases c
                      simp only [beq_eq_false_iff_ne.2 c2]
                      exact k1
                obtain ⟨z, k1, k2⟩ := find hm hfe
                have k1' : arr.find? (fun e => e.born == st) = some z := by
                  rw [← Array.find?_toList]; exact k1
                have hback : seen.toArray.back? = some st := by
                  rw [← hst]; simp
                refine ⟨.tuple #[z.key, z.val], w, ρ, ?_, .of_same hr (e1.trans e2), ?_⟩
                · rw [hxe] at hgo
                  simp only [Instr.entry, Sem.run_bind, hgo, hgo2, Result.andThen_ok, hback, bne_self_eq_false, Bool.false_eq_true, if_false, k1', Sem.run_pure]
                · refine .tup _ _ rfl (fun i v y hv hy => ?_)
                  rcases i with _ | _ | i
                  · simp at hv hy; subst hv; subst hy; exact k2.key
                  · simp at hv hy; subst hv; subst hy; exact k2.val
                  · simp at hv
              · exact (fail_ok h4).elim
        · exact (fail_ok h4).elim
      · exact (fail_ok h2).elim
    · exact (fail_ok h).elim
  · exact (fail_ok h).elim
end
end Go.Am
set_option linter.unusedSimpArgs false
set_option linter.unusedVariables false
namespace Go.Am
open Go
variable {E : Env}
section
variable {ρ : Ren} {m : Mem} {s s' : St} {w : World} {v : AVal}
theorem opd_sim {tm : List AVal} {a : Act} (h : RL ρ m tm a.tmps) (x : Operand) : R ρ m (opd tm x) (a.eval x) := by
 cases x with
 | tmp t =>
  simp only [opd, Act.eval, nth_get]
  by_cases ht : t < tm.length
  ·have h1 : tm[t]? = some tm[t] := List.getElem?_eq_getElem ht
   have h2 : a.tmps[t]? = some (a.tmps[t]'(by rw [← h.len]; exact ht)) := Array.getElem?_eq_getElem (by rw [← h.len]; exact ht)
   have h3 : a.tmps.getD t Go.undef = a.tmps[t]'(by rw [← h.len]; exact ht) := by simp [Array.getD, ← h.len, ht]
   rw [h1, Option.getD_some, h3]
   exact h.at_ t _ _ h1 h2
  ·have h1 : tm[t]? = none := List.getElem?_eq_none (Nat.not_lt.1 ht)
   have h3 : a.tmps.getD t Go.undef = Go.undef := by simp [Array.getD, ← h.len, ht]
   rw [h1, Option.getD_none, h3]
   exact .tup _ _ rfl (fun i v x hv => by simp at hv)
 | const c => exact ofValue_junk c
 | global g => exact .junk _
 | func f => exact .fn _ _ _ _ _ _ (.func f) rfl rfl (fun i v u hv => by simp at hv) (fun i v u hv => by simp at hv)
theorem opds_len (tm : List AVal) : ∀ l, (opds tm l).length = l.length
 | [] => rfl
 | x :: l => by simp [opds, opds_len tm l]
theorem opds_get (tm : List AVal) : ∀ (l : List Operand) (i : Nat), (opds tm l)[i]? = (l[i]?).map (opd tm)
 | [], i => by simp [opds]
 | x :: l, 0 => by simp [opds]
 | x :: l, i + 1 => by simp [opds, opds_get tm l i]
theorem opds_sim {tm : List AVal} {a : Act} (h : RL ρ m tm a.tmps) (l : Array Operand) : RL ρ m (opds tm l.toList) (l.map a.eval) := by
 refine ⟨by simp [opds_len], fun i v x hv hx => ?_⟩
 rw [opds_get] at hv
 simp only [Array.getElem?_toList] at hv
 simp only [Array.getElem?_map] at hx
 cases hl : l[i]? with
 | none => rw [hl] at hv; cases hv
 | some o =>
  rw [hl] at hv hx
  simp only [Option.map_some, Option.some.injEq] at hv hx
  subst hv; subst hx
  exact opd_sim h o
theorem opds_rv {tm : List AVal} {a : Act} (h : RL ρ m tm a.tmps) : ∀ l : List Operand, RV ρ m (opds tm l) (l.map a.eval)
 | [] => .nil
 | x :: l => .cons (opd_sim h x) (opds_rv h l)
theorem ops2_sim {tm : List AVal} {a : Act} (h : RL ρ m tm a.tmps) : ∀ l : List (Nat × Operand), RP ρ m (ops2 tm l) (l.map fun (i, x) => (i, a.eval x))
 | [] => .nil
 | (i, x) :: l => .cons i _ _ _ _ (opd_sim h x) (ops2_sim h l)
theorem opt_sim {tm : List AVal} {a : Act} (h : RL ρ m tm a.tmps) : ∀ o : Option Operand, RO ρ m (opt tm o) (o.map a.eval)
 | none => .none
 | some x => .some _ _ (opd_sim h x)
theorem put_sim {tm : List AVal} {a : Act} (h : RL ρ m tm a.tmps) (d : Option Tmp) {v : AVal} {x : Value} (hv : R ρ m v x) : RL ρ m (putT tm d v) (a.put d x).tmps := by
 cases d with
 | none => exact h
 | some d =>
  refine ⟨by simp [putT, Act.put, put_length, h.len], fun i u y hu hy => ?_⟩
  simp only [putT, put_get] at hu
  simp only [Act.put, Array.getElem?_setIfInBounds] at hy
  by_cases e : i = d
  ·subst e
   by_cases hl : i < tm.length
   ·have hl' : i < a.tmps.size := by rw [← h.len]; exact hl
    simp only [hl, and_self, if_true, Option.some.injEq] at hu
    simp only [hl', if_true, Option.some.injEq] at hy
    subst hu; subst hy
    exact hv
   ·have : tm[i]? = none := List.getElem?_eq_none (by omega)
    simp [hl, this] at hu
  ·have e' : ¬ d = i := fun h => e h.symm
   simp only [e, false_and, if_false] at hu
   simp only [e', if_false] at hy
   exact h.at_ i u y hu hy
theorem R.no_bool {v : AVal} {x : Value} (h : R ρ m v x) (h1 : ∀ b, v ≠ .bool b) (h2 : ∀ b, v ≠ .blit b) (h3 : v ≠ .junk) : ∀ b, x ≠ .bool b := by
 cases h with
 | bool b => exact absurd rfl (h1 b)
 | blit b => exact absurd rfl (h2 b)
 | junk => exact absurd rfl h3
 | _ => intro b hb; cases hb
theorem wanted_sim {ops : Array Oper} {tm : List AVal} {a : Act} {o : Oper} {b : Bool} (h : (wanted ops.toList tm o.guard).run s = .ok b s') (ho : OkObs s') (ht : RL ρ m tm a.tmps) :
  Same s s' ∧ Region.wanted o (yielded ops a.tmps) = b := by
 unfold wanted at h
 unfold Region.wanted
 cases hg : o.guard with
 | none =>
  rw [hg] at h
  obtain ⟨rfl, rfl⟩ := pure_ok h
  exact ⟨.refl _, rfl⟩
 | some p =>
  rw [hg] at h
  obtain ⟨j, want⟩ := p
  simp only [Array.getElem?_toList] at h
  simp only [yielded]
  cases hd : (ops[j]?).bind (·.dst) with
  | none =>
   rw [hd] at h
   obtain ⟨rfl, rfl⟩ := pure_ok h
   exact ⟨.refl _, rfl⟩
  | some d =>
   rw [hd] at h
   simp only at h
   simp only [Option.bind_some]
   by_cases hl : d < tm.length
   ·have h1 : tm[d]? = some tm[d] := List.getElem?_eq_getElem hl
    have hl' : d < a.tmps.size := by rw [← ht.len]; exact hl
    have h2 : a.tmps[d]? = some a.tmps[d] := Array.getElem?_eq_getElem hl'
    have hr := ht.at_ d _ _ h1 h2
    rw [nth_get, h1, Option.getD_some] at h
    rw [h2]
    generalize tm[d] = v at *
    generalize a.tmps[d] = x at *
    unfold wantB at h
    split at h
    ·rename_i b
     obtain ⟨t, s1, h3, h4, ho1, _, _⟩ := M.bind_did h ho
     obtain ⟨rfl, e⟩ := ask_ok h3 ho1
     obtain ⟨rfl, rfl⟩ := pure_ok h4
     obtain rfl := hr.bool_inv
     refine ⟨e, ?_⟩
     cases t <;> cases want <;> rfl
    ·rename_i b
     obtain ⟨rfl, rfl⟩ := pure_ok h
     obtain rfl := hr.blit_inv
     refine ⟨.refl _, ?_⟩
     cases b <;> cases want <;> rfl
    ·exact (fail_ok h).elim
    ·rename_i h3 h4 h5
     obtain ⟨rfl, rfl⟩ := pure_ok h
     refine ⟨.refl _, ?_⟩
     have := hr.no_bool (fun b => h3 b) (fun b => h4 b) h5
     cases x with
     | bool b => exact absurd rfl (this b)
     | _ => rfl
   ·have h1 : tm[d]? = none := List.getElem?_eq_none (Nat.not_lt.1 hl)
    have h2 : a.tmps[d]? = none := Array.getElem?_eq_none (by rw [← ht.len]; exact Nat.not_lt.1 hl)
    rw [nth_get, h1, Option.getD_none] at h
    rw [h2]
    have h : (M.pure false).run s = .ok b s' := h
    obtain ⟨rfl, rfl⟩ := pure_ok h
    exact ⟨.refl _, rfl⟩
def OutN (P : Program) (ρ : Ren) (m : Mem) (s : St) (w : World) (s' : St) (v : AVal) (res : Result Next) : Prop :=
 ∃ x w' ρ', (res = .ok (.value x) w' ∨ (res = .ok .skip w' ∧ x = Go.undef)) ∧ Post P ρ m s w ρ' m s' w' ∧ R ρ' m v x
theorem Out.next {P : Program} {r : Sem Value} (h : Out P ρ m s w s' v (r.run P w)) : OutN P ρ m s w s' v ((do pure (.value (← r)) : Sem Next).run P w) := by
 obtain ⟨x, w', ρ', h1, h2, h3⟩ := h
 exact ⟨x, w', ρ', .inl (by simp only [Sem.run_bind, h1, Result.andThen_ok, Sem.run_pure]), h2, h3⟩
theorem undef_sim : R ρ m undef Go.undef := .tup _ _ rfl (fun i v x hv => by simp at hv)
theorem nilCheck_sim {a : AVal} (h : (nilCheck a).run s = .ok v s') {x : Value} (hx : R ρ m a x) : s' = s ∧ R ρ m v x ∧ x ≠ .pointer none ∧ x ≠ .nilIface ∧ x ≠ .nilFunc ∧ (∀ n a b, x ≠ .func (.method n) a b) := by
 unfold nilCheck at h
 split at h
 ·obtain ⟨rfl, rfl⟩ := pure_ok h
  refine ⟨rfl, hx, ?_⟩
  cases hx
  exact ⟨by simp, by simp, by simp, by simp⟩
 ·obtain ⟨rfl, rfl⟩ := pure_ok h
  refine ⟨rfl, hx, ?_⟩
  cases hx
  exact ⟨by simp, by simp, by simp, by simp⟩
 ·split at h
  ·obtain ⟨rfl, rfl⟩ := pure_ok h
   refine ⟨rfl, hx, ?_⟩
   cases hx with
   | fn _ _ _ _ _ _ hf =>
    cases hf
    exact ⟨by simp, by simp, by simp, by simp⟩
  ·obtain ⟨rfl, rfl⟩ := pure_ok h
   refine ⟨rfl, hx, ?_⟩
   cases hx with
   | fn _ _ _ _ _ _ hf =>
    cases hf
    exact ⟨by simp, by simp, by simp, by simp⟩
  ·exact (fail_ok h).elim
 ·exact (fail_ok h).elim
theorem one1_ok {k : AVal → M AVal} {l : List AVal} (h : (one1 k l).run s = .ok v s') : ∃ x, l = [x] ∧ (k x).run s = .ok v s' := by
 unfold one1 at h
 split at h
 ·exact ⟨_, rfl, h⟩
 ·exact (fail_ok h).elim
theorem two2_ok {k : AVal → AVal → M AVal} {l : List AVal} (h : (two2 k l).run s = .ok v s') : ∃ x y, l = [x, y] ∧ (k x y).run s = .ok v s' := by
 unfold two2 at h
 split at h
 ·exact ⟨_, _, rfl, h⟩
 ·exact (fail_ok h).elim
theorem some1_ok {k : AVal → List AVal → M AVal} {l : List AVal} (h : (some1 k l).run s = .ok v s') : ∃ x y, l = x :: y ∧ (k x y).run s = .ok v s' := by
 unfold some1 at h
 split at h
 ·exact ⟨_, _, rfl, h⟩
 ·exact (fail_ok h).elim
theorem RV.array {l : List AVal} {c : Array Value} (h : RL ρ m l c) : RV ρ m l c.toList := by
 obtain ⟨c⟩ := c
 obtain ⟨hl, ha⟩ := h
 simp only [List.size_toArray] at hl
 induction l generalizing c with
 | nil =>
  cases c with
  | nil => exact .nil
  | cons => simp at hl
 | cons v l ih =>
  cases c with
  | nil => simp at hl
  | cons x c => exact .cons (ha 0 v x (by simp) (by simp)) (ih c (fun i v x hv hx => ha (i + 1) v x (by simpa using hv) (by simpa using hx)) (by simpa using hl))
theorem bLen_sim {ts : List TypeId} {a : AVal} (h : (bLen E ts a).run s = .ok v s') (hr : Rel E.P ρ m s.heap.get w) {x : Value} (hx : R ρ m a x) (ty : TypeId) :
  Out E.P ρ m s w s' v ((Builtin.len_ ts.toArray ty #[x]).run E.P w) := by
 unfold bLen at h
 split at h
 ·rename_i t tl
  obtain ⟨d, s1, h1, h2⟩ := M.bind_ok h
  obtain ⟨⟨i, hi, rfl⟩, rfl⟩ := und_ok h1
  have hu := hi.run_und (w := w)
  have h0 : ((t :: tl).toArray : Array TypeId)[0]? = some t := rfl
  have hx0 : (#[x] : Array Value)[0]? = some x := rfl
  cases hd : i.desc with
  | array n e =>
   rw [hd] at h2 hu
   obtain ⟨rfl, rfl⟩ := pure_ok h2
   simp only [Builtin.len_, h0, hx0, Sem.run_bind, hu, Result.andThen_ok, Sem.run_pure]
   exact .same hr (.refl _) (.int _ _)
  | pointer e =>
   rw [hd] at h2 hu
   obtain ⟨d2, s2, h3, h4⟩ := M.bind_ok h2
   obtain ⟨⟨j, hj, rfl⟩, rfl⟩ := und_ok h3
   have hv := hj.run_und (w := w)
   cases hd2 : j.desc with
   | array n e =>
    rw [hd2] at h4 hv
    obtain ⟨rfl, rfl⟩ := pure_ok h4
    simp only [Builtin.len_, h0, hx0, Sem.run_bind, hu, hv, Result.andThen_ok, Sem.run_pure]
    exact .same hr (.refl _) (.int _ _)
   | _ => rw [hd2] at h4; exact (fail_ok h4).elim
  | string =>
   rw [hd] at h2 hu
   obtain ⟨l, rfl, h3⟩ := str_ok h2
   obtain ⟨rfl, rfl⟩ := pure_ok h3
   obtain rfl := hx.str_inv
   simp only [Builtin.len_, h0, hx0, Sem.run_bind, hu, Result.andThen_ok, Sem.run_pure]
   exact .same hr (.refl _) (.int _ _)
  | slice e =>
   rw [hd] at h2 hu
   simp only at h2
   split at h2
   ·exact (fail_ok h2).elim
   ·rename_i hns
    obtain ⟨n, s2, h3, h4⟩ := M.bind_ok h2
    obtain ⟨rfl, rfl⟩ := pure_ok h4
    obtain ⟨rfl, hl⟩ := lenOf_sim (P := E.P) (w := w) h3 hx
    have go : ∀ (base : Option Addr) (l c : Nat), x = .slice base l c → Out E.P ρ m s' w s' (.int .i64 n) ((Builtin.len_ (t :: tl).toArray ty #[x]).run E.P w) := by
     rintro base l c rfl
     have : l = n := by
      have := hl
      simp only [Builtin.lenOf] at this
      injection this
     subst this
     simp only [Builtin.len_, h0, hx0, Sem.run_bind, hu, Result.andThen_ok, Sem.run_pure]
     exact .same hr (.refl _) (.int _ _)
    unfold lenOf at h3
    split at h3
    ·cases hx; exact go _ _ _ rfl
    ·cases hx; exact go _ _ _ rfl
    ·cases hx <;> exact go _ _ _ rfl
    ·cases hx <;> exact go _ _ _ rfl
    ·exact absurd rfl (hns _)
    ·exact (fail_ok h3).elim
  | map kt et =>
   rw [hd] at h2 hu
   simp only at h2
   split at h2
   ·obtain ⟨rfl, rfl⟩ := pure_ok h2
    cases hx
    simp only [Builtin.len_, h0, hx0, Sem.run_bind, hu, Result.andThen_ok, Sem.run_pure]
    exact .same hr (.refl _) (.int _ _)
   ·rename_i id
    obtain ⟨b, s2, h3, h4⟩ := M.bind_ok h2
    obtain ⟨hg, e1⟩ := get_ok h3
    split at h4
    ·rename_i es ck
     obtain ⟨r, arr, rfl, hρ, hgo, hw, hm⟩ := map_at hr hg hx
     obtain ⟨rfl, rfl⟩ := pure_ok h4
     have hl : (es.length : Int) = (arr.size : Int) := by have := hm.len; simp at this; omega
     simp only [Builtin.len_, h0, hx0, Sem.run_bind, hu, hgo, Result.andThen_ok, Sem.run_pure]
     rw [hl]
     exact .same hr e1 (.int _ _)
    ·exact (fail_ok h4).elim
   ·exact (fail_ok h2).elim
  | _ => rw [hd] at h2; exact (fail_ok h2).elim
 ·exact (fail_ok h).elim
theorem bCap_sim {ts : Array TypeId} {ty : TypeId} {a : AVal} (h : (bCap E ts.toList a).run s = .ok v s') (hr : Rel E.P ρ m s.heap.get w) {x : Value} (hx : R ρ m a x) :
  Out E.P ρ m s w s' v ((Builtin.cap_ ts ty #[x]).run E.P w) := by
 unfold bCap at h
 split at h
 ·rename_i t tl hts
  obtain ⟨tsl⟩ := ts
  simp only at hts
  subst hts
  obtain ⟨d, s1, h1, h2⟩ := M.bind_ok h
  obtain ⟨⟨i, hi, rfl⟩, rfl⟩ := und_ok h1
  have hu := hi.run_und (w := w)
  cases hd : i.desc with
  | slice e =>
   rw [hd] at h2 hu
   obtain ⟨n, s2, h3, h4⟩ := M.bind_ok h2
   obtain ⟨rfl, rfl⟩ := pure_ok h4
   have go : ∀ (base : Option Addr) (l : Nat), x = .slice base l n → s' = s1 → Out E.P ρ m s1 w s' (.int .i64 n) ((Builtin.cap_ (t :: tl).toArray ty #[x]).run E.P w) := by
    rintro base l rfl rfl
    simp only [Builtin.cap_, List.getElem?_toArray, List.getElem?_cons_zero, Sem.run_bind, hu, Result.andThen_ok, Sem.run_pure]
    exact .same hr (.refl _) (.int _ _)
   unfold capOf at h3
   split at h3
   ·obtain ⟨rfl, rfl⟩ := pure_ok h3; cases hx; exact go _ _ rfl rfl
   ·obtain ⟨rfl, rfl⟩ := pure_ok h3; cases hx; exact go _ _ rfl rfl
   ·split at h3
    ·obtain ⟨rfl, rfl⟩ := pure_ok h3
     cases hx with
     | slx _ _ _ c _ r hρ hl => exact go _ _ rfl rfl
     | sl0 _ _ _ _ ad hc hn' =>
      have := hc _ rfl
      subst this
      exact go _ _ rfl rfl
    ·exact (fail_ok h3).elim
   ·exact (fail_ok h3).elim
  | _ => rw [hd] at h2; exact (fail_ok h2).elim
 ·exact (fail_ok h).elim
theorem bClear_sim {ts : Array TypeId} {ty : TypeId} {a : AVal} (h : (bClear E ts.toList a).run s = .ok v s') (ho : OkObs s') (hr : Rel E.P ρ m s.heap.get w) {x : Value} (hx : R ρ m a x) :
  Out E.P ρ m s w s' v ((Builtin.clear_ ts ty #[x]).run E.P w) := by
 unfold bClear at h
 split at h
 ·rename_i t tl hts
  obtain ⟨tsl⟩ := ts
  simp only at hts
  subst hts
  obtain ⟨d, s1, h1, h2⟩ := M.bind_ok h
  obtain ⟨⟨i, hi, rfl⟩, rfl⟩ := und_ok h1
  have hu := hi.run_und (w := w)
  cases hd : i.desc with
  | slice e =>
   rw [hd] at h2 hu
   have none_ : ∀ (base : Option Addr) (c : Nat), x = .slice base 0 c → (Builtin.clear_ (t :: tl).toArray ty #[x]).run E.P w = .ok (.tuple #[]) w := by
    rintro base c rfl
    cases base <;> simp only [Builtin.clear_, List.getElem?_toArray, List.getElem?_cons_zero, Sem.run_bind, hu, Result.andThen_ok, Sem.run_pure]
   have tup0 : ∀ {ρ : Ren}, R ρ m (.tup []) (.tuple #[]) := fun {ρ} => .tup _ _ rfl (fun i v x hv => by simp at hv)
   simp only at h2
   split at h2
   ·obtain ⟨rfl, rfl⟩ := pure_ok h2; cases hx; rw [none_ _ _ rfl]; exact .same hr (.refl _) tup0
   ·obtain ⟨rfl, rfl⟩ := pure_ok h2; cases hx; rw [none_ _ _ rfl]; exact .same hr (.refl _) tup0
   ·rename_i id off len cap sz
    obtain ⟨nothing, s2, h3, h4, ho2, _, _⟩ := M.bind_did h2 ho
    obtain ⟨hq, e2⟩ := ask_ok h3 ho2
    cases nothing with
    | true =>
     have h0 : len = 0 := Nat.eq_of_beq_eq_true hq.symm
     subst h0
     obtain ⟨rfl, rfl⟩ := pure_ok h4
     cases hx <;> (rw [none_ _ _ rfl]; exact .same hr e2 tup0)
    | false =>
     have hne : ¬ len = 0 := by intro hh; rw [hh] at hq; cases hq
     obtain ⟨j, s3, h5, h6⟩ := M.bind_ok h4
     obtain ⟨hj, rfl⟩ := ti_ok h5
     obtain ⟨hsz, h7⟩ := sameSz_ok h6
     obtain ⟨_, s4, h8, h9⟩ := M.bind_ok h7
     obtain ⟨rfl, rfl⟩ := pure_ok h9
     obtain ⟨z, hz, hzi⟩ := hj.run_zero (w := w)
     have hzc := hj.zcells (ρ := ρ) (m := m) hzi
     have hreps := reps_sim hzc len
     have go : ∀ (r : RB) (c : Nat), ρ id = some r → x = .slice (some ⟨r.b, off, none⟩) len c → Out E.P ρ m s1 w s' (.tup []) ((Builtin.clear_ (t :: tl).toArray ty #[x]).run E.P w) := by
      intro r c hρ hxe
      subst hxe
      obtain ⟨ad, w', q1, q2, q3⟩ := writeCells_sim h8 ho (hr.of_same e2) (.ptr id off r hρ) (xs := (Builtin.zeroCells z.cells len).toList) (by simpa [Builtin.zeroCells] using hreps.len) (fun j p q hp hq => hreps.at_ j p q hp (by rw [Array.getElem?_toList] at hq; exact hq))
      injection q1 with q1
      injection q1 with q1
      subst q1
      refine ⟨_, w', ρ, ?_, q3.after e2, tup0⟩
      cases len with
      | zero => exact absurd rfl hne
      | succ len => simp only [Builtin.clear_, List.getElem?_toArray, List.getElem?_cons_zero, Sem.run_bind, hu, Result.andThen_ok, hz, q2, Sem.run_pure]
     cases hx with
     | slx _ _ _ c _ r hρ hl => exact go r c hρ rfl
     | slw _ _ _ c _ r hρ hl hs hc => exact go r c hρ rfl
     | sl0 _ _ _ _ ad hc hn' => exact absurd rfl hne
   ·exact (fail_ok h2).elim
  | map kt et =>
   have tup0 : R ρ m (.tup []) (.tuple #[]) := .tup _ _ rfl (fun i v x hv => by simp at hv)
   rw [hd] at h2 hu
   simp only at h2
   split at h2
   ·obtain ⟨rfl, rfl⟩ := pure_ok h2
    cases hx
    simp only [Builtin.clear_, List.getElem?_toArray, List.getElem?_cons_zero, Sem.run_bind, hu, Result.andThen_ok, Sem.run_pure]
    exact .same hr (.refl _) tup0
   ·rename_i id
    obtain ⟨b, s2, h3, h4⟩ := M.bind_ok h2
    obtain ⟨hg, e1⟩ := get_ok h3
    unfold mapK at h4
    split at h4
    ·rename_i es ck
     obtain ⟨r, arr, rfl, hρ, hgo, hw, hm⟩ := map_at hr hg hx
     obtain ⟨_, s3, h5, h6⟩ := M.bind_ok h4
     obtain ⟨rfl, rfl⟩ := pure_ok h6
     obtain ⟨k1, k2⟩ := map_set (arr' := #[]) hr hg hρ e1 h5 hw .nil
     refine ⟨.tuple #[], _, ρ, ?_, k2, tup0⟩
     simp only [Builtin.clear_, List.getElem?_toArray, List.getElem?_cons_zero, Sem.run_bind, hu, hgo, Result.andThen_ok, k1, Sem.run_pure]
    ·exact (fail_ok h4).elim
   ·exact (fail_ok h2).elim
  | _ => rw [hd] at h2; exact (fail_ok h2).elim
 ·exact (fail_ok h).elim
theorem builtin_sim {b : Builtin} {ts : Array TypeId} {ty : TypeId} {cs : Array Bool} {args : List AVal} {xs : Array Value} (h : (builtin E b ts.toList args).run s = .ok v s') (ho : OkObs s') (hr : Rel E.P ρ m s.heap.get w) (hf : Fresh ρ s s')
  (hx : RV ρ m args xs.toList) : OutN E.P ρ m s w s' v ((Go.builtin b ts ty cs xs).run E.P w) := by
 unfold builtin at h
 obtain ⟨xl⟩ := xs
 split at h
 ·obtain ⟨a, rfl, h2⟩ := one1_ok h
  cases hx with
  | cons ha ht =>
   cases ht
   have := bLen_sim h2 hr ha ty
   rw [Array.toArray_toList] at this
   exact this.next
 ·obtain ⟨a, b, rfl, h2⟩ := two2_ok h
  cases hx with
  | cons ha ht =>
   cases ht with
   | cons hb ht =>
    cases ht
    unfold bAppend at h2
    split at h2
    ·rename_i t t2 rest hts
     obtain ⟨d2, s1, h3, h4⟩ := M.bind_ok h2
     obtain ⟨⟨i2, hi2, rfl⟩, rfl⟩ := und_ok h3
     split at h4
     ·rename_i hd2
      cases rest with
      | nil => exact (appendZ_sim (ty := ty) (by rw [hts]) hi2 hd2 (by rw [hts] at h4; exact h4) ho hr hf ha hb).next
      | cons t3 rest => rw [hts] at h4; exact (fail_ok h4).elim
     ·rename_i hd2
      exact (append_sim (ty := ty) hts hi2 hd2 h4 ho hr hf ha hb).next
    ·exact (fail_ok h2).elim
 ·obtain ⟨a, b, rfl, h2⟩ := two2_ok h
  cases hx with
  | cons ha ht =>
   cases ht with
   | cons hb ht =>
    cases ht
    unfold bCopy at h2
    split at h2
    ·rename_i t rest hts
     exact (copy_sim (ty := ty) (by rw [← Array.getElem?_toList, hts]; rfl) h2 ho hr ha hb).next
    ·exact (fail_ok h2).elim
 ·obtain ⟨a, l, rfl, h2⟩ := some1_ok h
  cases hx with
  | cons ha ht =>
   exact Out.next (r := Builtin.min_ ts ty _) (foldM2_sim (f := min2) (g := Builtin.min2) (fun h hr x y hx hy => min2_sim h hr hx hy) h2 hr ha ht)
 ·obtain ⟨a, l, rfl, h2⟩ := some1_ok h
  cases hx with
  | cons ha ht =>
   exact Out.next (r := Builtin.max_ ts ty _) (foldM2_sim (f := max2) (g := Builtin.max2) (fun h hr x y hx hy => max2_sim h hr hx hy) h2 hr ha ht)
 ·obtain ⟨a, rfl, h2⟩ := one1_ok h
  cases hx with
  | cons ha ht =>
   cases ht
   have := bCap_sim (ty := ty) h2 hr ha
   rw [Array.toArray_toList] at this
   exact this.next
 ·obtain ⟨a, rfl, h2⟩ := one1_ok h
  cases hx with
  | cons ha ht =>
   cases ht
   have := bClear_sim (ty := ty) h2 ho hr ha
   rw [Array.toArray_toList] at this
   exact this.next
 ·obtain ⟨a, b, rfl, h2⟩ := two2_ok h
  cases hx with
  | cons ha ht =>
   cases ht with
   | cons hb ht =>
    cases ht
    have := bDelete_sim (ty := ty) h2 ho hr ha hb
    rw [Array.toArray_toList] at this
    exact this.next
 ·exact (fail_ok h).elim
theorem execOp_sim {rec : Rec} {o : Oper} {tm : List AVal} {a : Act} (h : (execOp E rec tm o.op).run s = .ok v s') (ho : OkObs s') (hr : Rel E.P ρ m s.heap.get w) (hf : Fresh ρ s s') (ht : RL ρ m tm a.tmps)
  (hc : ∀ c f, o.op = .call c → c.callee ≠ .value f) : OutN E.P ρ m s w s' v ((Go.execOp a.eval o).run E.P w) := by
 obtain ⟨dst, op, type, pos, after, guard⟩ := o
 simp only at h hc
 unfold execOp at h
 split at h
 case h_1 x =>
  obtain ⟨rfl, rfl⟩ := pure_ok h
  exact ⟨_, w, ρ, .inl rfl, .of_same hr (.refl _), opd_sim ht _⟩
 case h_2 x =>
  obtain ⟨rfl, rfl⟩ := pure_ok h
  exact ⟨_, w, ρ, .inl rfl, .of_same hr (.refl _), opd_sim ht _⟩
 case h_3 c x y =>
  obtain ⟨t, s1, h1, h2, ho1, _, _⟩ := M.bind_did h ho
  obtain ⟨hb, e⟩ := branch_ok h1 ho1
  have hcv : a.eval c = .bool t := by
   have := opd_sim ht c
   rcases hb with hb | hb
   ·rw [hb] at this; exact this.bool_inv
   ·rw [hb] at this; exact this.blit_inv
  cases t with
  | true =>
   obtain ⟨rfl, rfl⟩ := pure_ok h2
   refine ⟨a.eval x, w, ρ, .inl ?_, .of_same hr e, opd_sim ht _⟩
   simp only [Go.execOp, Sem.run_bind, hcv, asBool, Sem.run_pure, Result.andThen_ok, if_true]
  | false =>
   obtain ⟨rfl, rfl⟩ := pure_ok h2
   refine ⟨a.eval y, w, ρ, .inl ?_, .of_same hr e, opd_sim ht _⟩
   simp only [Go.execOp, Sem.run_bind, hcv, asBool, Sem.run_pure, Result.andThen_ok, Bool.false_eq_true, if_false]
 case h_4 t =>
  obtain ⟨z, s1, h1, h2⟩ := M.bind_ok h
  obtain ⟨⟨i, hi, rfl⟩, rfl⟩ := zeroOf_ok h1
  obtain ⟨zv, hz, hzi⟩ := hi.run_zero (w := w)
  have hzr : R ρ m i.zero zv := hzi ▸ ofValue_junk zv
  obtain ⟨ad, w', ρ', k1, k2, k3⟩ := newVar_sim h2 ho hr hf hzr
  refine Out.next (r := Instr.alloc t true (.tuple #[])) ⟨_, w', ρ', ?_, k2, k3⟩
  simp only [Instr.alloc, Sem.run_bind, hz, Result.andThen_ok, k1, Sem.run_pure]
 case h_5 t x =>
  obtain ⟨ad, w', ρ', k1, k2, k3⟩ := newVar_sim h ho hr hf (opd_sim ht x)
  refine Out.next (r := Instr.box t (a.eval x)) ⟨_, w', ρ', ?_, k2, k3⟩
  simp only [Instr.box, Sem.run_bind, Result.andThen_ok, k1, Sem.run_pure]
 case h_6 t ps =>
  have := build_sim h ho hr (ops2_sim ht ps.toList)
  have e : (ps.toList.map fun (i, x) => (i, a.eval x)).toArray = ps.map fun (i, x) => (i, a.eval x) := by
   apply Array.ext'; simp
  rw [e] at this
  exact this.next
 case h_7 t n ps =>
  have := buildSlice_sim h ho hr hf (ops2_sim ht ps.toList)
  have e : (ps.toList.map fun (i, x) => (i, a.eval x)).toArray = ps.map fun (i, x) => (i, a.eval x) := by
   apply Array.ext'; simp
  rw [e] at this
  exact this.next
 case h_8 t x => exact (load_sim h ho hr (opd_sim ht x)).next
 case h_9 t x y =>
  obtain ⟨u, s1, h1, h2⟩ := M.bind_ok h
  obtain ⟨rfl, rfl⟩ := pure_ok h2
  obtain ⟨w', k1, k2⟩ := store_sim h1 ho hr (opd_sim ht x) (opd_sim ht y)
  refine ⟨Go.undef, w', ρ, .inr ⟨?_, rfl⟩, k2, undef_sim⟩
  simp only [Go.execOp, Sem.run_bind, k1, Result.andThen_ok, Sem.run_pure]
 case h_10 x =>
  have hx := opd_sim ht x
  obtain ⟨rfl, k1, k2, k3, k4, k5⟩ := nilCheck_sim h hx
  refine ⟨a.eval x, w, ρ, .inl ?_, .of_same hr (.refl _), k1⟩
  simp only [Go.execOp]
  generalize a.eval x = y at *
  cases y with
  | pointer p => cases p with
   | none => exact absurd rfl k2
   | some p => rfl
  | nilIface => exact absurd rfl k3
  | nilFunc => exact absurd rfl k4
  | func f p q =>
   cases f with
   | method nm => exact absurd rfl (k5 nm p q)
   | _ => rfl
  | _ => rfl
 case h_11 bop t x y _ => exact (binOp_sim h ho hr (opd_sim ht x) (opd_sim ht y) x y).next
 case h_12 uop _ x => exact (unOp_sim h ho hr (opd_sim ht x)).next
 case h_13 sr ds x => exact (convert_sim h ho hr hf (opd_sim ht x)).next
 case h_14 f x y =>
  split at h
  ·rename_i g
   obtain ⟨rfl, rfl⟩ := pure_ok h
   have hx := opds_sim ht x
   have hy := opds_sim ht y
   exact Out.next (r := Instr.makeFunc (.func g) (x.map a.eval) (y.map a.eval)) ⟨_, w, ρ, rfl, .of_same hr (.refl _), .fn _ _ _ _ _ _ (.func g) hx.len hy.len hx.at_ hy.at_⟩
  ·exact (fail_ok h).elim
 case h_15 t l c => exact (makeSlice_sim h ho hr hf (opd_sim ht l) (opd_sim ht c)).next
 case h_16 t x lo hi mx => exact (slice_sim h ho hr (opd_sim ht x) (opt_sim ht lo) (opt_sim ht hi) (opt_sim ht mx)).next
 case h_17 t x f => exact (fieldAddr_sim h hr (opd_sim ht x)).next
 case h_18 t x f => exact (field_sim h hr (opd_sim ht x)).next
 case h_19 t x i => exact (indexAddr_sim h ho hr (opd_sim ht x) (opd_sim ht i)).next
 case h_20 t x i => exact (index_sim h ho hr (opd_sim ht x) (opd_sim ht i)).next
 case h_21 t x => exact (range_sim h ho hr hf (opd_sim ht x)).next
 case h_22 x st =>
  split at h
  ·exact (next_sim h ho hr (opd_sim ht x)).next
  ·exact (fail_ok h).elim
 case h_23 x i => exact (extract_sim h hr (opd_sim ht x)).next
 case h_24 c =>
  unfold doCall at h
  obtain ⟨callee, cargs, ctys⟩ := c
  simp only at h
  split at h
  ·rename_i f
   exact absurd rfl (hc _ f rfl)
  ·rename_i b
   have := builtin_sim (ty := type) (cs := cargs.map fun | .const _ => true | _ => false) h ho hr hf (xs := cargs.map a.eval) (by simpa using opds_rv ht cargs.toList)
   simp only [Go.execOp, resolve, Sem.run_bind, Sem.run_pure, Result.andThen_ok, invoke]
   exact this
  ·exact (fail_ok h).elim
 case h_25 t r =>
  refine (makeMap_sim (t := t) h hr hf (r' := r.map a.eval) fun e => ?_).next
  cases r with
  | none => rfl
  | some r => cases e
 case h_26 x => exact (entry_sim h ho hr (opd_sim ht x)).next
 case h_27 t x k ok => exact (lookup_sim h ho hr (opd_sim ht x) (opd_sim ht k)).next
 case h_28 t x k y =>
  obtain ⟨rfl, w', ρ', k1, k2⟩ := mapUpdate_sim h ho hr (opd_sim ht x) (opd_sim ht k) (opd_sim ht y)
  exact ⟨Go.undef, w', ρ', .inr ⟨by simp only [Go.execOp, Sem.run_bind, k1, Result.andThen_ok, Sem.run_pure], rfl⟩, k2, undef_sim⟩
 case h_29 t x k y =>
  obtain ⟨rfl, w', ρ', k1, k2⟩ := mapUpdate_sim h ho hr (opd_sim ht x) (opd_sim ht k) (opd_sim ht y)
  exact ⟨Go.undef, w', ρ', .inr ⟨by simp only [Go.execOp, Sem.run_bind, k1, Result.andThen_ok, Sem.run_pure], rfl⟩, k2, undef_sim⟩
 case h_30 t x k => exact (mapEntry_sim h ho hr (opd_sim ht x) (opd_sim ht k)).next
 case h_31 t x st y =>
  obtain ⟨rfl, w', ρ', k1, k2⟩ := entryStore_sim (t := t) h ho hr (opd_sim ht x) (opd_sim ht st) (opd_sim ht y)
  exact ⟨Go.undef, w', ρ', .inr ⟨by simp only [Go.execOp, Sem.run_bind, k1, Result.andThen_ok, Sem.run_pure], rfl⟩, k2, undef_sim⟩
 case h_32 => exact (fail_ok h).elim
end
end Go.Am
set_option linter.unusedSimpArgs false
set_option linter.unusedVariables false
namespace Go.Am
open Go
theorem Fw.depth (o : Option Nat) {n : Nat} : (Fw o).depth.isSome = true → 1 ≤ n := fun h => by cases h
theorem Fw.calls {o : Option Nat} {n : Nat} {P : Program} {f : FuncId} {args : Array Value} {w : World} {K : Ending → World → Prop} (h : Calls P f args w K) : CallsIn (Fw o) n P f args w K :=
 (callsIn_wide (n := n)).2 h
section
variable {P : Program} {b : Frame} {a : Act} {k : List Item} {cs : List Frame} {w : World}
theorem stepR_scope {c : Code} : Go.step P (lone (b.atR a (.code (.scope c) :: k)) cs w) = .next (lone (b.atR a (.code c :: .inScope c :: k)) cs w) :=
 step_lone_go (by simp [stepG, stepG.exec, Frame.atR])
theorem stepR_inScope {c : Code} : Go.step P (lone (b.atR a (.inScope c :: k)) cs w) = .next (lone (b.atR a k) cs w) :=
 step_lone_go (by simp [stepG, stepG.exec, Frame.atR])
end
def noGoto (Q : Exit → Act → World → Prop) : Exit → Act → World → Prop
 | .goto _, _, _ => False
 | e, a, w => Q e a w
section
variable {F : Fence} {n : Nat} {P : Program} {Q : Exit → Act → World → Prop} {a : Act} {w : World}
theorem wpIn_scope_straight {c : Code} (h : c.wpIn F n P (noGoto Q) a w) : (Code.scope c).wpIn F n P Q a w := by
 intro b k cs hro hb hr
 have h0 : (lone (b.atR a (.code (.scope c) :: k)) cs w).fenced P F := fenced_calm hb hr rfl
 obtain ⟨e, a₁, w₁, hq, harr⟩ := h b (.inScope c :: k) cs hro hb hr
 cases e with
 | normal => exact ⟨.normal, a₁, w₁, hq, .head h0 stepR_scope (StepsIn.trans harr (.one (fenced_calm hb hr rfl) stepR_inScope))⟩
 | exit id =>
  have hx : exitTo id (.inScope c :: k) = exitTo id k := by simp [exitTo]
  exact ⟨.exit id, a₁, w₁, hq, fun k' hk => .head h0 stepR_scope (harr.1 k' (by rw [hx]; exact hk)),
   fun hr' hk => let ⟨k₁, h1, h2⟩ := harr.2 hr' (by rw [hx]; exact hk); ⟨k₁, h1, .head h0 stepR_scope h2⟩⟩
 | goto l => exact hq.elim
 | ret => exact ⟨_, a₁, w₁, hq, .of_steps (.one h0 stepR_scope) harr⟩
 | panic ch => exact ⟨_, a₁, w₁, hq, .of_steps (.one h0 stepR_scope) harr⟩
 | outgrown => exact ⟨_, a₁, w₁, hq, .of_steps (.one h0 stepR_scope) harr⟩
theorem least {p : Nat → Prop} : ∀ j, p j → ∃ i, p i ∧ ∀ k, p k → i ≤ k := by
 intro j
 induction j using Nat.strongRecOn with
 | _ j ih =>
  intro h
  by_cases hh : ∃ i, i < j ∧ p i
  ·obtain ⟨i, hi, hp⟩ := hh
   exact ih i hi hp
  ·refine ⟨j, h, fun k hk => ?_⟩
   rcases Nat.lt_or_ge k j with hlt | hge
   ·exact absurd ⟨k, hlt, hk⟩ hh
   ·exact hge
open Classical in
theorem wpIn_loop_ind {c : Code} (I : Nat → Act → World → Prop) (zero : ∀ a w, ¬ I 0 a w)
  (round : ∀ j a w, I (j + 1) a w → c.wpIn F n P (Exit.then (fun a' w' => I j a' w') Q) a w) (j : Nat) (h : I j a w) : (Code.loop c).wpIn F n P Q a w := by
 let J : Act → World → Prop := fun a w => ∃ i, I i a w ∧ ∀ k, I k a w → i ≤ k
 let μ : Act → World → Nat := fun a w => if h : J a w then Classical.choose h else 0
 refine wpIn_loop J μ (least (p := fun i => I i a w) j h) (fun a w hJ => ?_)
 have hm : μ a w = Classical.choose hJ := by simp only [μ]; rw [dif_pos hJ]
 have hf := Classical.choose_spec hJ
 rw [← hm] at hf
 cases hn : μ a w with
 | zero => rw [hn] at hf; exact absurd hf.1 (zero a w)
 | succ i =>
  rw [hn] at hf
  refine wpIn_mono (round i a w hf.1) (fun e a' w' hq => ?_)
  cases e with
  | normal =>
   have hJ' : J a' w' := least (p := fun i => I i a' w') i hq
   have hm' : μ a' w' = Classical.choose hJ' := by simp only [μ]; rw [dif_pos hJ']
   have := (Classical.choose_spec hJ').2 i hq
   exact ⟨hJ', by omega⟩
  | _ => exact hq
end
theorem Mem.with_nil (m : Mem) : m.with [] = m := by funext b; simp [Mem.with]
theorem Mem.with_with (m : Mem) (D D' : List Nat) : (m.with D).with D' = m.with (D' ++ D) := by
 funext b
 simp only [Mem.with, List.mem_append]
 by_cases h : b ∈ D' <;> by_cases h2 : b ∈ D <;> simp [h, h2]
theorem Mem.le_with {m : Mem} {D : List Nat} (h : ∀ r ∈ D, m r = none) : MLe m (m.with D) := ⟨fun b c t f hb => by
 have : b ∉ D := fun hd => by rw [h b hd] at hb; cases hb
 simp [Mem.with, this, hb]⟩
theorem Mem.with_le {m : Mem} {D : List Nat} : MLe (m.with D) m := ⟨fun b c t f hb => by
 unfold Mem.with at hb
 by_cases hd : b ∈ D
 ·rw [if_pos hd] at hb; cases hb
 ·rw [if_neg hd] at hb; exact hb⟩
theorem Marks.nil (m : Mem) : Marks m [] := ⟨.nil, fun _ h => by cases h⟩
theorem Marks.append {m : Mem} {D D' : List Nat} (h : Marks m D) (h' : Marks (m.with D) D') : Marks m (D' ++ D) := by
 have key : ∀ r ∈ D', m r = Option.none ∧ r ∉ D := fun r hr => by
  have := h'.none r hr
  unfold Mem.with at this
  by_cases hd : r ∈ D
  ·rw [if_pos hd] at this; cases this
  ·rw [if_neg hd] at this; exact ⟨this, hd⟩
 refine ⟨List.nodup_append.2 ⟨h'.nodup, h.nodup, fun a ha b hb e => (key a ha).2 (e ▸ hb)⟩, fun r hr => ?_⟩
 rcases List.mem_append.1 hr with hr | hr
 ·exact (key r hr).1
 ·exact h.none r hr
theorem RN.mono {ρ ρ' : Ren} (h : RenLe ρ ρ') {x y : Option Nat} (hr : RN ρ x y) : RN ρ' x y := by
 cases hr with
 | none => exact .none
 | some id r hid => exact .some id r (h id r hid)
def SimC (P : Program) (rec : Rec) : Prop := ∀ fn rnd c, Sim1 P rnd c (rec fn rnd c)
theorem RV.list {ρ : Ren} {m : Mem} {l : List AVal} {xs : List Value} (h : RV ρ m l xs) : RL ρ m l xs.toArray := by
 induction h with
 | nil => exact .nil
 | cons hx ht ih =>
  refine ⟨by simpa using ih.len, fun i v x hv hx' => ?_⟩
  cases i with
  | zero => simp at hv hx'; subst hv; subst hx'; exact hx
  | succ i => exact ih.at_ i v x (by simpa using hv) (by simpa using hx')
theorem Rel.drop {P : Program} {ρ : Ren} {m : Mem} {h : Nat → Option Blk} {w : World} {r : Nat} {D : List Nat} (hr : Rel P ρ (m.with (r :: D)) h w) (hm : Marks m (r :: D)) (o : Obj) : Rel P ρ (m.with D) h (World.upd w r o) := by
 have hg : w.heap[r]? = some (.deferred (some [])) := hr.mem r _ (by simp [Mem.with])
 have hlt := lt_of_heap hg
 have hle : MLe (m.with (r :: D)) (m.with D) := ⟨fun b c t f hb => by
  have := Mem.with_le.le b c t f hb
  unfold Mem.with at hb ⊢
  by_cases hd : b ∈ D
  ·simp [hd] at hb
  ·simp [hd, this]⟩
 refine ⟨fun id b hb => ?_, hr.inj, fun b ob hb => ?_⟩
 ·obtain ⟨rb, ob, h1, h2, h3, h4⟩ := hr.live id b hb
  have hn : rb.b ∉ r :: D := fun hx => by unfold Mem.with at h4; rw [if_pos hx] at h4; cases h4
  have hn' : rb.b ≠ r := fun hx => hn (hx ▸ List.mem_cons_self)
  have hn2 : rb.b ∉ D := fun hx => hn (List.mem_cons_of_mem _ hx)
  refine ⟨rb, ob, h1, ?_, h3.mono (.refl ρ) hle, ?_⟩
  ·rw [World.upd_get _ _ _ hlt, if_neg hn']; exact h2
  ·unfold Mem.with at h4 ⊢; rw [if_neg hn] at h4; rw [if_neg hn2]; exact h4
 ·have hne : b ≠ r := fun hx => by
   subst hx
   have h1 : b ∉ D := (List.nodup_cons.1 hm.nodup).1
   have h2 := hm.none b List.mem_cons_self
   unfold Mem.with at hb
   rw [if_neg h1, h2] at hb
   cases hb
  rw [World.upd_get _ _ _ hlt, if_neg hne]
  refine hr.mem b ob ?_
  unfold Mem.with at hb ⊢
  by_cases hd : b ∈ D
  ·rw [if_pos hd] at hb; rw [if_pos (List.mem_cons_of_mem _ hd)]; exact hb
  ·rw [if_neg hd] at hb; rw [if_neg (by simp [hne, hd])]; exact hb
theorem leaves {P : Program} {ρ : Ren} {m : Mem} {h : Nat → Option Blk} {n : Nat} {fn : Func} {tmps : Array Value} {R : Ending → World → Prop} : ∀ (D : List Nat) (w : World), Rel P ρ (m.with D) h w → Marks m D →
  (∀ w', Rel P ρ m h w' → Fr w w' → ∃ v, (results fn tmps).run P w' = .ok v w' ∧ R (.returned v) w') → LeavesInM (Fw none) n P fn tmps R (D.map mk) .returning w := by
 intro D
 induction D with
 | nil =>
  intro w hr hm hk
  rw [Mem.with_nil] at hr
  exact hk w hr (.refl w)
 | cons r D ih =>
  intro w hr hm hk
  have hg : w.heap[r]? = some (.deferred (some [])) := hr.mem r _ (by simp [Mem.with])
  refine ⟨by simp, .inl ⟨r, World.upd w r (.deferred none), rfl, ?_, ?_⟩⟩
  ·simp only [Instr.takeDeferred, Sem.run_bind, run_getObj_at hg (fun _ _ _ h => by cases h), Result.andThen_ok, run_setObj_upd hg (fun _ _ _ h => by cases h), Sem.run_pure]
  ·exact ih _ (hr.drop hm _) ⟨(List.nodup_cons.1 hm.nodup).2, fun q hq => hm.none q (List.mem_cons_of_mem _ hq)⟩ (fun w' h1 h2 => hk w' h1 ((World.upd_fr _ _ _).trans h2))
variable {E : Env}
section
variable {ρ : Ren} {m : Mem} {s s' : St} {w : World} {v : AVal}
def resVal (a : Array Value) : ResultVar → Sem Value
 | .tmp t => pure (a.getD t Go.undef)
 | .cell c t => do loadVar t (← asAddr (a.getD c Go.undef))
theorem resultOf_sim {tm : List AVal} {a : Array Value} (ht : RL ρ m tm a) : ∀ (rs : List ResultVar) {l : List AVal} {s s' : St}, (resultOf E tm rs).run s = .ok l s' → OkObs s' → Rel E.P ρ m s.heap.get w →
  ∃ xs, (rs.mapM (resVal a)).run E.P w = .ok xs w ∧ RV ρ m l xs ∧ Same s s' := by
 intro rs
 induction rs with
 | nil =>
  intro l s s' h ho hr
  obtain ⟨rfl, rfl⟩ := pure_ok h
  exact ⟨[], rfl, .nil, .refl _⟩
 | cons r rs ih =>
  intro l s s' h ho hr
  have hopd : ∀ t, R ρ m (nth tm t undef) (a.getD t Go.undef) := fun t => opd_sim (a := ⟨a, []⟩) ht (.tmp t)
  cases r with
  | tmp t =>
   obtain ⟨q, s1, h1, h2⟩ := M.bind_ok h
   obtain ⟨rfl, rfl⟩ := pure_ok h2
   obtain ⟨xs, k1, k2, k3⟩ := ih h1 ho hr
   refine ⟨_, ?_, .cons (hopd t) k2, k3⟩
   simp only [List.mapM_cons, resVal, Sem.run_bind, Sem.run_pure, Result.andThen_ok, k1]
  | cell c t =>
   obtain ⟨q, s1, h1, h2, ho1, _, _⟩ := M.bind_did h ho
   obtain ⟨q2, s2, h3, h4⟩ := M.bind_ok h2
   obtain ⟨rfl, rfl⟩ := pure_ok h4
   obtain ⟨ad, y, g1, g2, g3, g4⟩ := load_at h1 ho1 hr (hopd c)
   obtain ⟨xs, k1, k2, k3⟩ := ih h3 ho (hr.of_same g4)
   refine ⟨_, ?_, .cons g3 k2, g4.trans k3⟩
   simp only [List.mapM_cons, resVal, Sem.run_bind, Sem.run_pure, Result.andThen_ok, g1, asAddr, g2, k1]
theorem ended_sim {fn : Func} {tm : List AVal} {a : Array Value} (ht : RL ρ m tm a) (h : (ended E tm fn.results.toList).run s = .ok v s') (ho : OkObs s') (hr : Rel E.P ρ m s.heap.get w) :
  ∃ x, (results fn a).run E.P w = .ok x w ∧ R ρ m v x ∧ Same s s' := by
 obtain ⟨l, s1, h1, h2⟩ := M.bind_ok h
 obtain ⟨rfl, rfl⟩ := pure_ok h2
 obtain ⟨xs, k1, k2, k3⟩ := resultOf_sim ht _ h1 ho hr
 have e : (results fn a) = (do let vs ← fn.results.mapM (resVal a); pure (if h : vs.size = 1 then vs[0] else .tuple vs)) := rfl
 rw [e, ← Array.toArray_toList (xs := fn.results), List.mapM_toArray]
 simp only [Sem.run_bind, Sem.run_map, k1, Result.andThen_ok, Sem.run_pure]
 refine ⟨_, rfl, ?_, k3⟩
 cases k2 with
 | nil => exact .tup _ _ rfl (fun i v x hv => by simp at hv)
 | cons hx ht =>
  cases ht with
  | nil => simpa [oneOrTup] using hx
  | cons hy ht =>
   rename_i a1 x1 a2 x2 l xs
   have hne : ¬ (x1 :: x2 :: xs).toArray.size = 1 := by simp
   rw [dif_neg hne]
   have hl : RV ρ m (a1 :: a2 :: l) (x1 :: x2 :: xs) := .cons hx (.cons hy ht)
   have : RL ρ m (a1 :: a2 :: l) (x1 :: x2 :: xs).toArray := hl.list
   exact .tup _ _ this.len this.at_
end
end Go.Am
set_option linter.unusedSimpArgs false
set_option linter.unusedVariables false
namespace Go.Am
open Go
variable {E : Env}
section
variable {ρ : Ren} {m : Mem} {s s' : St} {w : World} {v : AVal}
theorem RL.undefs (k : Nat) : RL ρ m (List.replicate k undef) (Array.replicate k Go.undef) := by
 refine ⟨by simp, fun i v x hv hx => ?_⟩
 simp only [List.getElem?_replicate, Array.getElem?_replicate] at hv hx
 split at hv
 ·simp only [Option.some.injEq] at hv
  rename_i hi
  rw [if_pos hi] at hx
  simp only [Option.some.injEq] at hx
  subst hv; subst hx
  exact undef_sim
 ·cases hv
theorem Post.dropped {P : Program} {ρ' : Ren} {D : List Nat} {s1 : St} {w1 w2 : World} (h : Post P ρ m s w ρ' (m.with D) s1 w1) (hr : Rel P ρ' m s1.heap.get w2) (hfr : Fr w1 w2) (e : Same s1 s') : Post P ρ m s w ρ' m s' w2 where
 ren := h.ren
 new := fun id hid => (h.new id hid).imp_right fun x => ⟨x.1, by rw [e.next]; exact x.2⟩
 mem := fun _ _ h => h
 rel := hr.of_same e
 fr := h.fr.trans hfr
 next := by rw [e.next]; exact h.next
theorem callI_sim {rec : Rec} (hrec : SimC E.P rec) (f : FuncId) : SimCall E.P f (callI E rec f) := by
 intro args s v s' h ho ρ m w xs hr hf hx
 unfold callI at h
 split at h
 ·rename_i hb
  have hfok := (E.funcs.find f).ok
  rw [Nat.eq_of_beq_eq_true hb] at hfok
  obtain ⟨fn, h1, h2, h3, h4⟩ := hfok.fn
  obtain ⟨r, s1, k1, k2, ho1, n1, n2⟩ := M.bind_did h ho
  obtain ⟨e, tm'⟩ := r
  refine .inl ⟨hfok.call xs w, (callsIn_wide (n := 0)).1 (callsIn_of_wp_marks (F := Fw none) h1 h2 trivial ?_)⟩
  refine hrec f none _ _ _ _ s s1 k1 ho1 ρ m w { tmps := xs ++ Array.replicate (fn.ntmps - xs.size) Go.undef, defers := [] } none 0 _ hr (hf.fst n2) ?_ .none ?_
  ·have : RL ρ m (args ++ List.replicate ((E.funcs.find f).i.ntmps - args.length) undef) (xs ++ Array.replicate (fn.ntmps - xs.size) Go.undef) := by
    rw [h3, hx.len]
    exact hx.append (RL.undefs _)
   exact this
  ·intro e' a' w' ρ' D he
   have fin : ∀ (k2 : (ended E tm' (E.funcs.find f).i.results).run s1 = .ok v s'), LeavesInM (Fw none) 0 E.P fn a'.tmps (fun e w' => ∃ v_1, e = .returned v_1 ∧ ∃ ρ', Post E.P ρ m s w ρ' m s' w' ∧ R ρ' m v v_1) a'.defers .returning w' := by
    intro k2
    have hd := he.defers
    rw [List.append_nil] at hd
    rw [hd]
    refine leaves D w' he.post.rel he.marks (fun w'' hr'' hfr => ?_)
    rw [← h4] at k2
    obtain ⟨x, q1, q2, q3⟩ := ended_sim (he.tmps.mono (.refl _) Mem.with_le) k2 ho hr''
    exact ⟨x, q1, x, rfl, ρ', he.post.dropped hr'' hfr q3, q2⟩
   have hex := he.ex
   cases e with
   | normal => cases hex; exact fin k2
   | ret => cases hex; exact fin k2
   | exit id => exact (fail_ok k2).elim
 ·exact (fail_ok h).elim
theorem hookAt_ok : ∀ (l : List (Hook E.P)) {f : FuncId} {args : List AVal} {k : M AVal}, (hookAt E l f args k).run s = .ok v s' → (∃ h ∈ l, h.f = f ∧ (h.act args).run s = .ok v s') ∨ k.run s = .ok v s'
 | [], _, _, _, h => .inr h
 | q :: l, f, args, k, h => by
  unfold hookAt at h
  split at h
  ·rename_i hb
   exact .inl ⟨q, List.mem_cons_self, Nat.eq_of_beq_eq_true hb, h⟩
  ·rcases hookAt_ok l h with ⟨q', hm, he, hr⟩ | h
   ·exact .inl ⟨q', List.mem_cons_of_mem _ hm, he, hr⟩
   ·exact .inr h
theorem callF_sim {rec : Rec} (hrec : SimC E.P rec) (f : FuncId) : SimCall E.P f (callF E rec f) := by
 intro args s v s' h ho ρ m w xs hr hf hx
 rcases hookAt_ok E.hooks h with ⟨q, _, rfl, hq⟩ | h
 ·exact q.ok args s v s' hq ho ρ m w xs hr hf hx
 ·exact callI_sim hrec f args s v s' h ho ρ m w xs hr hf hx
theorem Rel.loop {P : Program} {h : Nat → Option Blk} (hr : Rel P ρ m h w) {id : Nat} {l : ALoop} (hg : h id = some (.loop l)) {r : RB} (hρ : ρ id = some r) :
  ∃ L, w.heap[r.b]? = some (.loop L) ∧ L.state = l.state ∧ L.pending = l.pending ∧ RL ρ m l.tmps L.tmps ∧ L.params.toList = l.params ∧ L.assign = l.assign ∧ L.body = l.body := by
 obtain ⟨rb, o, h1, h2, h3, h4⟩ := hr.live id _ hg
 rw [hρ] at h1
 injection h1 with h1
 subst h1
 cases h3 with
 | loop l L a b c d e f => exact ⟨L, h2, a, b, c, d, e, f⟩
theorem run_getLoop {P : Program} {b : Nat} {L : Loop} (h : w.heap[b]? = some (.loop L)) : (Instr.getLoop b).run P w = .ok L w := by
 simp only [Instr.getLoop, Sem.run_bind, run_getObj_at h (fun _ _ _ h => by cases h), Result.andThen_ok, Sem.run_pure]
theorem Post.upd {P : Program} (hr : Rel P ρ m s.heap.get w) {id : Nat} {b0 b : Blk} {o : Obj} {r : RB} (hg : s.heap.get id = some b0) (hρ : ρ id = some r) (hb : BR P ρ m r b o) (hn : s'.next = s.next)
  (hh : ∀ j, s'.heap.get j = if j = id then some b else s.heap.get j) : Post P ρ m s w ρ m s' (World.upd w r.b o) where
 ren := .refl ρ
 new := fun _ h => .inl h
 mem := fun _ _ h => h
 rel := hr.upd hg hρ hb hh
 fr := World.upd_fr _ _ _
 next := by omega
theorem putAll_sim : ∀ (ps : List (Tmp × AVal)) (qs : List (Tmp × Value)) (tm : List AVal) (a : Array Value), RL ρ m tm a → ps.map (·.1) = qs.map (·.1) → RV ρ m (ps.map (·.2)) (qs.map (·.2)) →
  RL ρ m (putAll tm ps) (qs.foldl (fun tmps (t, a) => tmps.setIfInBounds t a) a)
 | [], [], tm, a, h, _, _ => h
 | [], q :: qs, tm, a, h, h1, _ => by simp at h1
 | p :: ps, [], tm, a, h, h1, _ => by simp at h1
 | (t, v) :: ps, (t', x) :: qs, tm, a, h, h1, h2 => by
  simp only [List.map_cons, List.cons.injEq] at h1
  obtain ⟨rfl, h1⟩ := h1
  cases h2 with
  | cons hv h2 => exact putAll_sim ps qs _ _ (put_sim (a := ⟨a, []⟩) h (some t) hv) h1 h2
theorem RV.length {l : List AVal} {xs : List Value} (h : RV ρ m l xs) : l.length = xs.length := by
 induction h with
 | nil => rfl
 | cons _ _ ih => simp [ih]
theorem yieldTo_sim {rec : Rec} (hrec : SimC E.P rec) {id : Nat} {args : List AVal} (h : (yieldTo rec id args).run s = .ok v s') (ho : OkObs s') (hr : Rel E.P ρ m s.heap.get w) (hf : Fresh ρ s s') {xs : Array Value} (hx : RL ρ m args xs)
  {r : RB} (hρ : ρ id = some r) (o : Option Nat) (n : Nat) :
  ∃ f tmps assign body, (Instr.yield r.b xs).run E.P w = .ok (.round r.b f tmps assign body) w ∧ RoundIn (Fw o) n E.P r.b f tmps assign body w fun e w' => ∃ x, e = .returned x ∧ ∃ ρ', Post E.P ρ m s w ρ' m s' w' ∧ R ρ' m v x := by
 obtain ⟨b, s1, h1, h2, ho1, _, n1⟩ := M.bind_did h ho
 obtain ⟨hg, e1⟩ := get_ok h1
 obtain ⟨l, rfl, h3⟩ := loopK_ok h2
 split at h3
 ·exact (fail_ok h3).elim
 rename_i hlen
 split at h3
 case h_2 => exact (fail_ok h3).elim
 rename_i hst
 obtain ⟨⟨e, tm1⟩, s2, h4, h5, ho2, n2, n2'⟩ := M.bind_did h3 ho
 cases e with
 | ret => exact (fail_ok h5).elim
 | exit j => exact (fail_ok h5).elim
 | normal =>
 obtain ⟨b2, s3, h6, h7, ho3, n3, n3'⟩ := M.bind_did h5 ho
 obtain ⟨hg2, e3⟩ := get_ok h6
 obtain ⟨l2, rfl, h8⟩ := loopK_ok h7
 split at h8
 case h_2 => exact (fail_ok h8).elim
 rename_i hst2
 obtain ⟨_, s4, h9, h10, ho4, n4, n4'⟩ := M.bind_did h8 ho
 obtain ⟨⟨e2, tm2⟩, s5, h11, h12, ho5, n5, n5'⟩ := M.bind_did h10 ho
 obtain ⟨b3, s6, h13, h14, ho6, n6, n6'⟩ := M.bind_did h12 ho
 obtain ⟨hg3, e6⟩ := get_ok h13
 obtain ⟨l3, rfl, h15⟩ := loopK_ok h14
 obtain ⟨_, s7, h16, h17⟩ := M.bind_ok h15
 obtain ⟨rfl, rfl⟩ := pure_ok h17
 obtain ⟨L, q1, q2, q3, q4, q5, q6, q7⟩ := hr.loop hg hρ
 have hpl : L.params.size = xs.size := by
  have := Nat.eq_of_beq_eq_true hlen
  rw [← hx.len, this, ← q5]; simp
 refine ⟨L.fn, (L.params.zip xs).foldl (fun tmps (t, a) => tmps.setIfInBounds t a) L.tmps, L.assign, L.body, ?_, roundIn_of_wpIn (F := Fw o) trivial ?_⟩
 ·have hne : ¬ xs.size ≠ L.params.size := fun h => h hpl.symm
  simp only [Instr.yield, Sem.run_bind, run_getLoop q1, Result.andThen_ok, hne, if_false, Sem.run_pure]
 ·have hr1 := hr.of_same e1
  have hf1 := hf.of_same e1
  rw [← q6] at h4
  have ht0 : RL ρ m (putAll l.tmps (l.params.zip args)) ((L.params.zip xs).foldl (fun tmps (t, a) => tmps.setIfInBounds t a) L.tmps) := by
   rw [← Array.foldl_toList, Array.toList_zip, q5]
   have hv := RV.array hx
   have hl : l.params.length = args.length := (Nat.eq_of_beq_eq_true hlen).symm
   have hl' : l.params.length = xs.toList.length := by rw [hl, hv.length]
   exact putAll_sim _ _ _ _ q4 (by rw [List.map_fst_zip (by omega), List.map_fst_zip (by omega)]) (by rw [List.map_snd_zip (by omega), List.map_snd_zip (by omega)]; exact hv)
  refine hrec l.fn (some id) _ _ _ _ s1 s2 h4 ho2 ρ m w { tmps := _, defers := [] } (some r.b) n _ hr1 (hf1.fst n2') ht0 (.some id r hρ) ?_
  intro e' a1 w1 ρ1 D he
  have hD := he.inRound (by simp)
  subst hD
  have hex := he.ex
  cases hex
  have hp1 := he.post
  rw [Mem.with_nil] at hp1
  have ht1 := he.tmps
  rw [Mem.with_nil] at ht1
  have hρ1 := hp1.ren id r hρ
  have hr3 := hp1.rel.of_same e3
  have hg2' : s3.heap.get id = some (.loop l2) := by rw [e3.heap]; exact hg2
  obtain ⟨L2, g1, g2, g3, g4, g5, g6, g7⟩ := hp1.rel.loop hg2 hρ1
  obtain ⟨_, hn4, hset4⟩ := set_ok h9
  refine ⟨World.upd w1 r.b (.loop { L2 with state := .busy }), ?_, ?_⟩
  ·have : L2.state = .ready := by rw [g2, hst2]
   simp only [Instr.beginRound, Sem.run_bind, run_getLoop g1, Result.andThen_ok, run_setObj_upd g1 (fun _ _ _ h => by cases h), this, Sem.run_pure]
  ·have hp4 : Post E.P ρ1 m s3 w1 ρ1 m s4 (World.upd w1 r.b (.loop { L2 with state := .busy })) :=
    .upd hr3 hg2' hρ1 (.loop r { l2 with state := .busy } _ rfl g3 g4 g5 g6 g7) hn4 hset4
   have hp14 : Post E.P ρ m s w ρ1 m s4 (World.upd w1 r.b (.loop { L2 with state := .busy })) := (hp1.after e1).trans (hp4.after e3)
   have hbody : L.body = l.body := q7
   rw [← hbody] at h11
   refine hrec l.fn (some id) _ _ _ _ s4 s5 h11 ho5 ρ1 m _ a1 (some r.b) n _ hp4.rel ((hf.snd hp14).fst (by omega)) ht1 (.some id r hρ1) ?_
   intro e2' a2 w2 ρ2 D2 he2
   have hD2 := he2.inRound (by simp)
   subst hD2
   have hp5 := he2.post
   rw [Mem.with_nil] at hp5
   have hρ2 := hp5.ren id r hρ1
   have hr6 := hp5.rel.of_same e6
   have hg3' : s6.heap.get id = some (.loop l3) := by rw [e6.heap]; exact hg3
   obtain ⟨L3, k1, k2, k3, k4, k5, k6, k7⟩ := hp5.rel.loop hg3 hρ2
   obtain ⟨_, hn7, hset7⟩ := set_ok h16
   have hrun : ∀ j : Option Code, (Instr.endRound r.b j).run E.P w2 = .ok (.bool j.isNone) (World.upd w2 r.b (.loop { L3 with state := if j.isNone then .ready else .done, pending := j })) := fun j => by
    simp only [Instr.endRound, Sem.run_bind, run_getLoop k1, Result.andThen_ok, run_setObj_upd k1 (fun _ _ _ h => by cases h), Sem.run_pure]
   have hfin : ∀ j : Option Code, jumpOf e2 = j → j.isNone = normB e2 → ∃ x, Ending.returned (.bool j.isNone) = .returned x ∧
     ∃ ρ', Post E.P ρ m s w ρ' m s' (World.upd w2 r.b (.loop { L3 with state := if j.isNone then .ready else .done, pending := j })) ∧ R ρ' m (.blit (normB e2)) x := by
    intro j hj hjn
    refine ⟨_, rfl, ρ2, ?_, hjn ▸ .blit _⟩
    have hp7 : Post E.P ρ2 m s6 w2 ρ2 m s' (World.upd w2 r.b (.loop { L3 with state := if j.isNone then .ready else .done, pending := j })) := by
     refine .upd hr6 hg3' hρ2 (.loop r { l3 with state := (match normB e2 with | true => .ready | false => .done), pending := jumpOf e2 } _ ?_ hj.symm k4 k5 k6 k7) hn7 hset7
     simp only [hjn]
     cases normB e2 <;> rfl
    exact hp14.trans (hp5.trans (hp7.after e6))
   have hex2 := he2.ex
   cases hex2 with
   | normal => exact ⟨_, _, hrun none, hfin none rfl rfl⟩
   | ret => exact ⟨_, _, hrun (some .ret), hfin (some .ret) rfl rfl⟩
   | exit j => exact ⟨_, _, hrun (some (.exit j)), hfin (some (.exit j)) rfl rfl⟩
theorem op_sim {rec : Rec} (hrec : SimC E.P rec) {o : Oper} {tm : List AVal} {a : Act} (h : (execOp E rec tm o.op).run s = .ok v s') (ho : OkObs s') (hr : Rel E.P ρ m s.heap.get w) (hf : Fresh ρ s s') (ht : RL ρ m tm a.tmps)
  {ro : Option Nat} {n : Nat} {next : Act → World → Prop} {Q : Exit → Act → World → Prop} (hk : ∀ x w' ρ', Post E.P ρ m s w ρ' m s' w' → R ρ' m v x → next (a.put o.dst x) w') : o.wpIn (Fw ro) n E.P a w next Q := by
 refine ⟨fun _ _ => trivial, ?_⟩
 have hsem : o.semAt (Fw ro).round a.eval = Go.execOp a.eval o := by
  refine Oper.semAt_eq _ _ _ (fun c hc => ?_)
  rw [hc] at h
  exact (fail_ok h).elim
 rw [hsem]
 by_cases hcall : ∃ c f, o.op = .call c ∧ c.callee = .value f
 ·obtain ⟨c, f, hoc, hcf⟩ := hcall
  obtain ⟨dst, op, type, pos, after, guard⟩ := o
  simp only at hoc
  subst hoc
  obtain ⟨callee, cargs, ctys⟩ := c
  simp only at hcf
  subst hcf
  have h : (callV E rec (opd tm f) (opds tm cargs.toList)).run s = .ok v s' := h
  have hfv := opd_sim ht f
  have hav := opds_sim ht cargs
  unfold callV at h
  split at h
  ·rename_i g first cap hfe
   rw [hfe] at hfv
   cases hvf : a.eval f with
   | func g' first' cap' =>
    rw [hvf] at hfv
    cases hfv with
    | fn _ _ _ _ _ _ hg hxl hyl hxa hya =>
    split at h
    ·rename_i gf
     cases hg
     have hargs : RL ρ m (first ++ opds tm cargs.toList ++ cap) (first' ++ cargs.map a.eval ++ cap') := (RL.append ⟨hxl, hxa⟩ hav).append ⟨hyl, hya⟩
     have := callF_sim hrec gf _ s v s' h ho ρ m w _ hr hf hargs
     have hrun : (Go.execOp a.eval { dst, op := .call { callee := .value f, args := cargs, argTypes := ctys }, type, pos, after, guard }).run E.P w = (callFunc gf (first' ++ cargs.map a.eval ++ cap')).run E.P w := by
      simp only [Go.execOp, resolve, hvf, Deferred.ofValue, Sem.run_bind, Sem.run_pure, Result.andThen_ok, invoke]
     rw [hrun]
     rcases this with ⟨he, hc⟩ | ⟨x, w', he, ρ', hp, hx⟩
     ·rw [he]
      refine ⟨Fw.depth _, Fw.calls (hc.mono (fun e w' hh => ?_))⟩
      obtain ⟨x, rfl, ρ', hp, hx⟩ := hh
      exact hk x w' ρ' hp hx
     ·rw [he]
      exact hk x w' ρ' hp hx
    ·rename_i id
     split at h
     ·cases hg with
      | yield _ r hρ =>
      have hf0 : first' = #[] := Array.eq_empty_of_size_eq_zero (by rw [← hxl]; rfl)
      subst hf0
      obtain ⟨f2, tmps, assign, body, k1, k2⟩ := yieldTo_sim hrec h ho hr hf hav hρ ro (n - 1)
      have hrun : (Go.execOp a.eval { dst, op := .call { callee := .value f, args := cargs, argTypes := ctys }, type, pos, after, guard }).run E.P w = (Instr.yield r.b (cargs.map a.eval)).run E.P w := by
       simp only [Go.execOp, resolve, hvf, Deferred.ofValue, Sem.run_bind, Sem.run_pure, Result.andThen_ok, invoke, Array.empty_append]
      rw [hrun, k1]
      refine ⟨Fw.depth _, k2.mono (fun e w' hh => ?_)⟩
      obtain ⟨x, rfl, ρ', hp, hx⟩ := hh
      exact hk x w' ρ' hp hx
     ·exact (fail_ok h).elim
    ·exact (fail_ok h).elim
   | _ => rw [hvf] at hfv; cases hfv
  ·exact (fail_ok h).elim
 ·obtain ⟨x, w', ρ', h1, h2, h3⟩ := execOp_sim h ho hr hf ht (fun c f hc hf => hcall ⟨c, f, hc, hf⟩)
  rcases h1 with h1 | ⟨h1, rfl⟩
  ·rw [h1]; exact hk x w' ρ' h2 h3
  ·rw [h1]; exact hk _ w' ρ' h2 h3
theorem opV_sim {rec : Rec} (hrec : SimC E.P rec) {ops : Array Oper} {o : Oper} {tm : List AVal} {a : Act} (h : (opV E rec ops.toList o tm).run s = .ok v s') (ho : OkObs s') (hr : Rel E.P ρ m s.heap.get w) (hf : Fresh ρ s s') (ht : RL ρ m tm a.tmps)
  {ro : Option Nat} {n : Nat} {next : Act → World → Prop} {Q : Exit → Act → World → Prop}
  (hk : ∀ x w' ρ', Post E.P ρ m s w ρ' m s' w' → R ρ' m v x → next (a.put o.dst x) w') :
  if Region.wanted o (yielded ops a.tmps) then o.wpIn (Fw ro) n E.P a w next Q else (∀ f, o.about E.P w a.eval = some f → (Fw ro).fn f) ∧ next (a.put o.dst Go.undef) w := by
 obtain ⟨b, s1, h1, h2, ho1, _, n1⟩ := M.bind_did h ho
 obtain ⟨e1, hw⟩ := wanted_sim h1 ho1 ht
 cases b with
 | true =>
  rw [if_pos hw]
  exact op_sim hrec h2 ho (hr.of_same e1) (hf.of_same e1) ht (fun x w' ρ' hp hx => hk x w' ρ' (hp.after e1) hx)
 | false =>
  rw [if_neg (by rw [hw]; simp)]
  obtain ⟨rfl, rfl⟩ := pure_ok h2
  exact ⟨fun _ _ => trivial, hk _ w ρ (.of_same hr e1) undef_sim⟩
theorem opAt_sim {rec : Rec} (hrec : SimC E.P rec) {ops : Array Oper} {o : Oper} {tm tm' : List AVal} {a : Act} (h : (opAt E rec ops.toList o tm).run s = .ok tm' s') (ho : OkObs s') (hr : Rel E.P ρ m s.heap.get w) (hf : Fresh ρ s s') (ht : RL ρ m tm a.tmps)
  {ro : Option Nat} {n : Nat} {next : Act → World → Prop} {Q : Exit → Act → World → Prop}
  (hk : ∀ x v w' ρ', Post E.P ρ m s w ρ' m s' w' → tm' = putT tm o.dst v → R ρ' m v x → RL ρ' m tm' (a.put o.dst x).tmps → next (a.put o.dst x) w') :
  if Region.wanted o (yielded ops a.tmps) then o.wpIn (Fw ro) n E.P a w next Q else (∀ f, o.about E.P w a.eval = some f → (Fw ro).fn f) ∧ next (a.put o.dst Go.undef) w := by
 obtain ⟨v, s1, h1, h2⟩ := M.bind_ok h
 obtain ⟨rfl, rfl⟩ := pure_ok h2
 exact opV_sim hrec h1 ho hr hf ht (fun x w' ρ' hp hx => hk x v w' ρ' hp rfl hx (put_sim (ht.mono hp.ren hp.mle) o.dst hx))
theorem Act.put_defers (a : Act) (d : Option Tmp) (x : Value) : (a.put d x).defers = a.defers := by cases d <;> rfl
theorem evalOps_sim {rec : Rec} (hrec : SimC E.P rec) {ops : Array Oper} {ro : Option Nat} {n : Nat} {Q : Exit → Act → World → Prop} : ∀ (l : List Oper) {tm tm' : List AVal} {s : St} {ρ : Ren} {w : World} {a : Act}, (evalOps E rec ops.toList l tm).run s = .ok tm' s' → OkObs s' →
  Rel E.P ρ m s.heap.get w → Fresh ρ s s' → RL ρ m tm a.tmps → (∀ a' w' ρ', Post E.P ρ m s w ρ' m s' w' → RL ρ' m tm' a'.tmps → a'.defers = a.defers → Q .normal a' w') → wpListIn (Fw ro) n E.P ops Q l a w := by
 intro l
 induction l with
 | nil =>
  intro tm tm' s ρ w a h ho hr hf ht hk
  obtain ⟨rfl, rfl⟩ := pure_ok h
  exact hk a w ρ (.of_same hr (.refl _)) ht rfl
 | cons o l ih =>
  intro tm tm' s ρ w a h ho hr hf ht hk
  obtain ⟨tm1, s1, h1, h2, ho1, _, n1⟩ := M.bind_did h ho
  refine opAt_sim hrec h1 ho1 hr (hf.fst n1) ht (fun x v w' ρ' hp _ hx ht' => ?_)
  exact ih h2 ho hp.rel (hf.snd hp) ht' (fun a' w'' ρ'' hp2 ht2 hd => hk a' w'' ρ'' (hp.trans hp2) ht2 (by rw [hd, Act.put_defers]))
end
end Go.Am
set_option linter.unusedSimpArgs false
set_option linter.unusedVariables false
namespace Go.Am
open Go
variable {E : Env}
section
variable {ρ : Ren} {m : Mem} {s s' : St} {w : World} {v : AVal}
theorem AtEnd.still {P : Program} {o : Option Nat} {a : Act} {e : AExit} {e' : Exit} {tm : List AVal} (hr : Rel P ρ m s.heap.get w) (es : Same s s') (ht : RL ρ m tm a.tmps) (hx : RX e e') : AtEnd P ρ m s w o a e tm s' e' a w ρ [] where
 post := by rw [Mem.with_nil]; exact .of_same hr es
 tmps := by rw [Mem.with_nil]; exact ht
 ex := hx
 defers := rfl
 marks := .nil m
 inRound := fun _ => rfl
theorem AtEnd.trans {P : Program} {o : Option Nat} {a a1 a2 : Act} {e : AExit} {e2 : AExit} {tm1 tm2 : List AVal} {s1 s2 : St} {e1 : Exit} {e2' : Exit} {w1 w2 : World} {ρ1 ρ2 : Ren} {D D' : List Nat}
  (h : AtEnd P ρ m s w o a e tm1 s1 e1 a1 w1 ρ1 D) (h' : AtEnd P ρ1 (m.with D) s1 w1 o a1 e2 tm2 s2 e2' a2 w2 ρ2 D') : AtEnd P ρ m s w o a e2 tm2 s2 e2' a2 w2 ρ2 (D' ++ D) where
 post := by
  have := h'.post
  rw [Mem.with_with] at this
  exact h.post.trans this
 tmps := by rw [← Mem.with_with]; exact h'.tmps
 ex := h'.ex
 defers := by rw [h'.defers, h.defers]; simp
 marks := h.marks.append h'.marks
 inRound := fun ho => by rw [h.inRound ho, h'.inRound ho]; rfl
theorem AtEnd.exit {P : Program} {o : Option Nat} {a a1 : Act} {e e2 : AExit} {tm1 : List AVal} {s1 : St} {e1 e2' : Exit} {w1 : World} {ρ1 : Ren} {D : List Nat}
  (h : AtEnd P ρ m s w o a e tm1 s1 e1 a1 w1 ρ1 D) (hx : RX e2 e2') : AtEnd P ρ m s w o a e2 tm1 s1 e2' a1 w1 ρ1 D := ⟨h.post, h.tmps, hx, h.defers, h.marks, h.inRound⟩
theorem AtEnd.after {P : Program} {o : Option Nat} {a a1 : Act} {e : AExit} {tm1 : List AVal} {s0 s1 : St} {e1 : Exit} {w1 : World} {ρ1 : Ren} {D : List Nat}
  (h : AtEnd P ρ m s w o a e tm1 s1 e1 a1 w1 ρ1 D) (es : Same s0 s) : AtEnd P ρ m s0 w o a e tm1 s1 e1 a1 w1 ρ1 D := ⟨h.post.after es, h.tmps, h.ex, h.defers, h.marks, h.inRound⟩
theorem seq_sim {rec : Rec} (hrec : SimC E.P rec) {fn : FuncId} {rnd : Option Nat} {x y : Code} : Sim1 E.P rnd (.seq x y) (step E rec fn rnd (.seq x y)) := by
 intro tm e tm' s s' h ho ρ m w a o n Q hr hf ht hn hQ
 obtain ⟨⟨e1, tm1⟩, s1, h1, h2, ho1, n1, n1'⟩ := M.bind_did h ho
 refine wpIn_seq (hrec fn rnd x _ _ _ s s1 h1 ho1 ρ m w a o n _ hr (hf.fst n1') ht hn (fun e' a' w' ρ' D he => ?_))
 have hex := he.ex
 cases e1 with
 | normal =>
  cases hex
  refine hrec fn rnd y _ _ _ s1 s' h2 ho ρ' (m.with D) w' a' o n Q he.post.rel (hf.snd he.post) he.tmps (hn.mono he.post.ren) (fun e2 a2 w2 ρ2 D2 he2 => ?_)
  exact hQ _ _ _ _ _ (he.trans he2)
 | ret =>
  cases hex
  obtain ⟨he1, rfl⟩ := pure_ok h2
  injection he1 with q1 q2
  subst q1; subst q2
  exact hQ _ _ _ _ _ he
 | exit j =>
  cases hex
  obtain ⟨he1, rfl⟩ := pure_ok h2
  injection he1 with q1 q2
  subst q1; subst q2
  exact hQ _ _ _ _ _ he
theorem cond_sim {rec : Rec} (hrec : SimC E.P rec) {fn : FuncId} {rnd : Option Nat} {c : Operand} {x y : Code} : Sim1 E.P rnd (.cond c x y) (step E rec fn rnd (.cond c x y)) := by
 intro tm e tm' s s' h ho ρ m w a o n Q hr hf ht hn hQ
 obtain ⟨t, s1, h1, h2, ho1, n1, n1'⟩ := M.bind_did h ho
 obtain ⟨hb, e1⟩ := branch_ok h1 ho1
 have hcv : a.eval c = .bool t := by
  have := opd_sim ht c
  rcases hb with hb | hb
  ·rw [hb] at this; exact this.bool_inv
  ·rw [hb] at this; exact this.blit_inv
 refine wpIn_cond hcv ?_
 cases t with
 | true => exact hrec fn rnd x _ _ _ s1 s' h2 ho ρ m w a o n Q (hr.of_same e1) (hf.of_same e1) ht hn (fun e2 a2 w2 ρ2 D2 he2 => hQ _ _ _ _ _ (he2.after e1))
 | false => exact hrec fn rnd y _ _ _ s1 s' h2 ho ρ m w a o n Q (hr.of_same e1) (hf.of_same e1) ht hn (fun e2 a2 w2 ρ2 D2 he2 => hQ _ _ _ _ _ (he2.after e1))
theorem block_sim {rec : Rec} (hrec : SimC E.P rec) {fn : FuncId} {rnd : Option Nat} {id : Nat} {c : Code} : Sim1 E.P rnd (.block id c) (step E rec fn rnd (.block id c)) := by
 intro tm e tm' s s' h ho ρ m w a o n Q hr hf ht hn hQ
 simp only [step] at h
 cases hk : chookAt E.bhooks fn id (.block id c) with
 | some act =>
  rw [hk] at h
  exact chook_ok hk rnd tm e tm' s s' h ho ρ m w a o n Q hr hf ht hn hQ
 | none =>
 rw [hk] at h
 obtain ⟨⟨e1, tm1⟩, s1, h1, h2, ho1, n1, n1'⟩ := M.bind_did h ho
 refine wpIn_block (hrec fn rnd c _ _ _ s s1 h1 ho1 ρ m w a o n _ hr (hf.fst n1') ht hn (fun e' a' w' ρ' D he => ?_))
 have hex := he.ex
 cases e1 with
 | normal =>
  cases hex
  obtain ⟨he1, rfl⟩ := pure_ok h2
  injection he1 with q1 q2
  subst q1; subst q2
  exact hQ _ _ _ _ _ he
 | ret =>
  cases hex
  obtain ⟨he1, rfl⟩ := pure_ok h2
  injection he1 with q1 q2
  subst q1; subst q2
  exact hQ _ _ _ _ _ he
 | exit j =>
  cases hex
  simp only at h2
  simp only [Exit.inBlock]
  split at h2
  ·rename_i hb
   rw [if_pos (Nat.eq_of_beq_eq_true hb)]
   obtain ⟨he1, rfl⟩ := pure_ok h2
   injection he1 with q1 q2
   subst q1; subst q2
   exact hQ _ _ _ _ _ (he.exit .normal)
  ·rename_i hb
   rw [if_neg (Nat.ne_of_beq_eq_false hb)]
   obtain ⟨he1, rfl⟩ := pure_ok h2
   injection he1 with q1 q2
   subst q1; subst q2
   exact hQ _ _ _ _ _ he
theorem scope_sim {rec : Rec} (hrec : SimC E.P rec) {fn : FuncId} {rnd : Option Nat} {c : Code} : Sim1 E.P rnd (.scope c) (step E rec fn rnd (.scope c)) := by
 intro tm e tm' s s' h ho ρ m w a o n Q hr hf ht hn hQ
 refine wpIn_scope_straight (hrec fn rnd c _ _ _ s s' h ho ρ m w a o n _ hr hf ht hn (fun e' a' w' ρ' D he => ?_))
 have hex := he.ex
 cases hex <;> exact hQ _ _ _ _ _ he
theorem forgetL_sim {ρ : Ren} {m : Mem} : ∀ (k : List Bool) (tm : List AVal), (forgetL k tm).length = tm.length ∧ ∀ (i : Nat) v, (forgetL k tm)[i]? = some v → v = .junk ∨ tm[i]? = some v := by
 intro k
 induction k with
 | nil => intro tm; exact ⟨rfl, fun i v h => .inr h⟩
 | cons b k ih =>
  intro tm
  cases tm with
  | nil => exact ⟨rfl, fun i v h => .inr h⟩
  | cons a tm =>
   obtain ⟨h1, h2⟩ := ih tm
   refine ⟨by simp [forgetL, h1], fun i v h => ?_⟩
   cases i with
   | zero =>
    simp only [forgetL, List.getElem?_cons_zero] at h ⊢
    injection h with h
    cases b with
    | true => exact .inr (by rw [← h])
    | false => exact .inl h.symm
   | succ i =>
    simp only [forgetL, List.getElem?_cons_succ] at h ⊢
    exact h2 i v h
theorem forget_sim {ρ : Ren} {m : Mem} {fn : FuncId} {tm : List AVal} {c : Array Value} (h : RL ρ m tm c) : RL ρ m (forget E fn tm) c := by
 unfold forget
 split
 ·exact h
 ·rename_i k _
  obtain ⟨h1, h2⟩ := forgetL_sim (ρ := ρ) (m := m) k tm
  refine ⟨by rw [h1]; exact h.len, fun i v x hv hx => ?_⟩
  rcases h2 i v hv with rfl | hv
  ·exact .junk x
  ·exact h.at_ i v x hv hx
theorem region_sim {rec : Rec} (hrec : SimC E.P rec) {fn : FuncId} {rnd : Option Nat} {id : Nat} {ops : Array Oper} : Sim1 E.P rnd (.region id ops false) (step E rec fn rnd (.region id ops false)) := by
 intro tm e tm' s s' h ho ρ m w a o n Q hr hf ht hn hQ
 obtain ⟨tm1, s1, h1, h2⟩ := M.bind_ok h
 obtain ⟨he1, rfl⟩ := pure_ok h2
 injection he1 with q1 q2
 subst q1; subst q2
 refine wpIn_region_list (evalOps_sim hrec ops.toList h1 ho hr hf ht (fun a' w' ρ' hp ht' hd => hQ _ _ _ ρ' [] ⟨?_, ?_, .normal, hd, .nil m, fun _ => rfl⟩))
 ·rw [Mem.with_nil]; exact hp
 ·rw [Mem.with_nil]; exact forget_sim ht'
theorem loop_sim {F : Nat → Rec} {c : Code} {fn : FuncId} {rnd : Option Nat} {k : Nat} (hz : ∀ tm e tm' s s', (F 0 fn rnd (.loop c) tm).run s ≠ .ok (e, tm') s') (hs : ∀ j, j < k → F (j + 1) fn rnd (.loop c) = step E (F j) fn rnd (.loop c))
  (hF : ∀ j, j < k → Sim1 E.P rnd c (F j fn rnd c)) : Sim1 E.P rnd (.loop c) (F k fn rnd (.loop c)) := by
 intro tm e tm' s s' h ho ρ m w a o n Q hr hf ht hn hQ
 let I : Nat → Act → World → Prop := fun j a1 w1 => j ≤ k ∧ ∃ tm1 s1 ρ1 D1, (F j fn rnd (.loop c) tm1).run s1 = .ok (e, tm') s' ∧ AtEnd E.P ρ m s w o a .normal tm1 s1 .normal a1 w1 ρ1 D1
 refine wpIn_loop_ind I (fun a1 w1 hI => ?_) (fun j a1 w1 hI => ?_) k ⟨Nat.le_refl _, tm, s, ρ, [], h, .still hr (.refl _) ht .normal⟩
 ·obtain ⟨_, tm1, s1, _, _, h1, _⟩ := hI
  exact hz _ _ _ _ _ h1
 ·obtain ⟨hj, tm1, s1, ρ1, D1, h1, he1⟩ := hI
  rw [hs j (by omega)] at h1
  obtain ⟨⟨e2, tm2⟩, s2, h2, h3, ho2, n2, n2'⟩ := M.bind_did h1 ho
  refine hF j (by omega) _ _ _ s1 s2 h2 ho2 ρ1 (m.with D1) w1 a1 o n _ he1.post.rel ((hf.snd he1.post).fst n2') he1.tmps (hn.mono he1.post.ren) (fun e' a' w' ρ' D he => ?_)
  have hex := he.ex
  cases e2 with
  | normal =>
   cases hex
   exact ⟨by omega, tm2, s2, ρ', _, h3, he1.trans he⟩
  | ret =>
   cases hex
   obtain ⟨hq, rfl⟩ := pure_ok h3
   injection hq with q1 q2
   subst q1; subst q2
   exact hQ _ _ _ _ _ (he1.trans he)
  | exit j =>
   cases hex
   obtain ⟨hq, rfl⟩ := pure_ok h3
   injection hq with q1 q2
   subst q1; subst q2
   exact hQ _ _ _ _ _ (he1.trans he)
theorem rangeK_ok {id : Nat} {tm tm' : List AVal} {e : AExit} (h : (rangeK id tm).run s = .ok (e, tm') s') (hr : Rel E.P ρ m s.heap.get w) {r : RB} (hρ : ρ id = some r) :
  tm' = tm ∧ ∃ jump w', (Instr.endLoop r.b).run E.P w = .ok jump w' ∧ jump = jumpOf e ∧ Post E.P ρ m s w ρ m s' w' := by
 obtain ⟨b, s1, h1, h2⟩ := M.bind_ok h
 obtain ⟨hg, e1⟩ := get_ok h1
 obtain ⟨l, rfl, h3⟩ := loopK_ok h2
 obtain ⟨L, q1, q2, q3, q4, q5, q6, q7⟩ := hr.loop hg hρ
 have hg1 : s1.heap.get id = some (.loop l) := by rw [e1.heap]; exact hg
 have main : l.state ≠ .busy → ((setB id (.loop { l with state := .exhausted })).bind fun _ => match l.pending with
   | none => M.pure (AExit.normal, tm)
   | some c => match c with
    | .ret => M.pure (.ret, tm)
    | .exit j => M.pure (.exit j, tm)
    | _ => fail "pending").run s1 = .ok (e, tm') s' → tm' = tm ∧ ∃ jump w', (Instr.endLoop r.b).run E.P w = .ok jump w' ∧ jump = jumpOf e ∧ Post E.P ρ m s w ρ m s' w' := by
  intro hst h4
  obtain ⟨_, s2, h5, h6⟩ := M.bind_ok h4
  obtain ⟨_, hn2, hset⟩ := set_ok h5
  have hp : Post E.P ρ m s1 w ρ m s2 (World.upd w r.b (.loop { L with state := .exhausted })) :=
   .upd (hr.of_same e1) hg1 hρ (.loop r { l with state := .exhausted } _ rfl q3 q4 q5 q6 q7) hn2 hset
  have hp' := hp.after e1
  have hrun : (Instr.endLoop r.b).run E.P w = .ok L.pending (World.upd w r.b (.loop { L with state := .exhausted })) := by
   have hb : (L.state == .busy) = false := by rw [q2]; cases hs : l.state <;> first | rfl | exact absurd hs hst
   simp only [Instr.endLoop, Sem.run_bind, run_getLoop q1, Result.andThen_ok, hb, Bool.false_eq_true, if_false, run_setObj_upd q1 (fun _ _ _ h => by cases h), Sem.run_pure]
  generalize hw : World.upd w r.b (.loop { L with state := .exhausted }) = wx at hrun hp'
  rw [q3] at hrun
  cases hpd : l.pending with
  | none =>
   rw [hpd] at h6 hrun
   obtain ⟨hq, rfl⟩ := pure_ok h6
   injection hq with a1 a2
   subst a1; subst a2
   exact ⟨rfl, _, _, hrun, rfl, hp'⟩
  | some c =>
   rw [hpd] at h6 hrun
   simp only at h6
   split at h6
   ·obtain ⟨hq, rfl⟩ := pure_ok h6
    injection hq with a1 a2
    subst a1; subst a2
    exact ⟨rfl, _, _, hrun, rfl, hp'⟩
   ·obtain ⟨hq, rfl⟩ := pure_ok h6
    injection hq with a1 a2
    subst a1; subst a2
    exact ⟨rfl, _, _, hrun, rfl, hp'⟩
   ·exact (fail_ok h6).elim
 split at h3
 ·exact (fail_ok h3).elim
 ·rename_i hst
  exact main (fun hh => hst hh) h3
theorem rangeFunc_sim {rec : Rec} (hrec : SimC E.P rec) {fn : FuncId} {rnd : Option Nat} {f : Operand} {ps : Array Tmp} {assign body : Code} : Sim1 E.P rnd (.rangeFunc f ps assign body) (step E rec fn rnd (.rangeFunc f ps assign body)) := by
 intro tm e tm' s s' h ho ρ m w a o n Q hr hf ht hn hQ
 have hfv := opd_sim ht f
 simp only [step] at h
 split at h
 case h_2 => exact (fail_ok h).elim
 rename_i g first cap hfe
 rw [hfe] at hfv
 split at h
 case h_2 => exact (fail_ok h).elim
 rename_i gf
 split at h
 case h_2 => exact (fail_ok h).elim
 rename_i hb
 have hfok := (E.funcs.find gf).ok
 rw [Nat.eq_of_beq_eq_true hb] at hfok
 obtain ⟨_, s1, h1, h2, ho1, n1, n1'⟩ := M.bind_did h ho
 obtain ⟨id, s2, h3, h4, ho2, n2, n2'⟩ := M.bind_did h2 ho
 obtain ⟨rv, s3, h5, h6, ho3, n3, n3'⟩ := M.bind_did h4 ho
 cases hvf : a.eval f with
 | func g' first' cap' =>
  rw [hvf] at hfv
  cases hfv with
  | fn _ _ _ _ _ _ hg hxl hyl hxa hya =>
  cases hg
  have enter : Same s s1 ∧ ∃ D w0, Marks m D ∧ (o ≠ none → D = []) ∧ Fr w w0 ∧ Rel E.P ρ (m.with D) s1.heap.get w0 ∧
    ∀ fn' : FuncId, ∃ L, (Instr.enterLoop fn' a.tmps ps assign body o).run E.P w = .ok (w0.heap.size, D.map mk) (w0.alloc (.loop L)) ∧ L.state = .ready ∧ L.pending = none ∧ L.tmps = a.tmps ∧ L.params = ps ∧ L.assign = assign ∧ L.body = body := by
   cases hn with
   | none =>
    obtain ⟨_, rfl⟩ := pure_ok h1
    refine ⟨.refl _, [w.heap.size], w.alloc (.deferred (some [])), ⟨by simp, fun r hr' => ?_⟩, fun h => absurd rfl h, .alloc _ _, ?_, fun fn' => ?_⟩
    ·have : r = w.heap.size := by simpa using hr'
     subst this
     cases hm : m w.heap.size with
     | none => rfl
     | some q => have := lt_of_heap (hr.mem _ _ hm); omega
    ·have hm0 : m w.heap.size = none := by
      cases hm : m w.heap.size with
      | none => rfl
      | some q => have := lt_of_heap (hr.mem _ _ hm); omega
     refine ⟨fun i b hb => ?_, hr.inj, fun b ob hb => ?_⟩
     ·obtain ⟨rb, ob, q1, q2, q3, q4⟩ := hr.live i b hb
      have hlt := lt_of_heap q2
      refine ⟨rb, ob, q1, ?_, q3.mono (.refl ρ) (Mem.le_with (by simpa using hm0)), ?_⟩
      ·rw [alloc_get, if_neg (by omega)]; exact q2
      ·unfold Mem.with; rw [if_neg (by simp; omega)]; exact q4
     ·unfold Mem.with at hb
      by_cases hd : b = w.heap.size
      ·subst hd
       rw [if_pos (by simp)] at hb
       injection hb with hb
       subst hb
       rw [alloc_get, if_pos rfl]
      ·rw [if_neg (by simpa using hd)] at hb
       rw [alloc_get, if_neg hd]
       exact hr.mem b ob hb
    ·refine ⟨{ state := .ready, pending := none, fn := fn', tmps := a.tmps, params := ps, assign, body, defers := w.heap.size }, ?_, rfl, rfl, rfl, rfl, rfl, rfl⟩
     ·simp only [Instr.enterLoop, Sem.run_bind, run_newObj_alloc, Result.andThen_ok, Sem.run_pure]
      rfl
   | some id0 r hid =>
    obtain ⟨b, s0, k1, k2⟩ := M.bind_ok h1
    obtain ⟨hg, e1⟩ := get_ok k1
    obtain ⟨l, rfl, k3⟩ := loopK_ok k2
    obtain ⟨_, rfl⟩ := pure_ok k3
    obtain ⟨L, q1, _⟩ := hr.loop hg hid
    refine ⟨e1, [], w, .nil m, fun _ => rfl, .refl w, by rw [Mem.with_nil]; exact hr.of_same e1, fun fn' => ⟨{ state := .ready, pending := none, fn := fn', tmps := a.tmps, params := ps, assign, body, defers := L.defers }, ?_, rfl, rfl, rfl, rfl, rfl, rfl⟩⟩
    ·simp only [Instr.enterLoop, Sem.run_bind, run_getLoop q1, run_newObj_alloc, Result.andThen_ok, Sem.run_pure]
     rfl
  obtain ⟨e1, D, w0, hD, hD0, hfr, hr0, henter⟩ := enter
  have hmle : MLe m (m.with D) := Mem.le_with hD.none
  refine wpIn_rangeFunc (fun fn' _ => ?_)
  obtain ⟨L, hrun, l1, l2, l3, l4, l5, l6⟩ := henter fn'
  have hf1 := hf.of_same e1
  have hf12 : Fresh ρ s1 s2 := hf1.fst (by omega)
  obtain ⟨_, hp⟩ := newObj_sim h3 hr0 hf12 (.loop L) 0 0 (fun ρ' hle => .loop _ _ L l1 l2 (by rw [l3]; exact ht.mono hle hmle) (by rw [l4]) l5 l6)
  have hid : (ρ.put id ⟨w0.heap.size, 0, 0⟩) id = some ⟨w0.heap.size, 0, 0⟩ := by simp [Ren.put]
  have hargs : RL (ρ.put id ⟨w0.heap.size, 0, 0⟩) (m.with D) (first ++ [AVal.fn (.yield id) [] []] ++ cap) (first' ++ #[.func (.yield w0.heap.size) #[] #[]] ++ cap') := by
   have hy : RL (ρ.put id ⟨w0.heap.size, 0, 0⟩) (m.with D) [AVal.fn (.yield id) [] []] #[.func (.yield w0.heap.size) #[] #[]] := by
    refine ⟨rfl, fun i v x hv hx => ?_⟩
    cases i with
    | zero =>
     simp at hv hx
     subst hv; subst hx
     exact .fn _ _ _ _ _ _ (.yield id ⟨w0.heap.size, 0, 0⟩ hid) rfl rfl (fun i v u hv => by simp at hv) (fun i v u hv => by simp at hv)
    | succ i => simp at hv
   exact ((RL.mono hp.ren hmle ⟨hxl, hxa⟩).append hy).append (RL.mono hp.ren hmle ⟨hyl, hya⟩)
  have hf2 : Fresh (ρ.put id ⟨w0.heap.size, 0, 0⟩) s2 s' := hf1.snd hp
  have hcall := callF_sim hrec gf _ s2 rv s3 h5 ho3 _ _ _ _ hp.rel (hf2.fst n3') hargs
  refine ⟨w0.heap.size, D.map mk, w0.alloc (.loop L), { target := .fn (.func gf) cap', args := first' ++ #[.func (.yield w0.heap.size) #[] #[]] }, w0.alloc (.loop L), gf, first' ++ #[.func (.yield w0.heap.size) #[] #[]] ++ cap', w0.alloc (.loop L), hrun, ?_, fun _ _ => trivial, ?_, Fw.depth _, ?_⟩
  ·have : (#[Operand.const (.func (.yield w0.heap.size) #[] #[])] : Array Operand).map a.eval = #[.func (.yield w0.heap.size) #[] #[]] := by simp [Act.eval]
   simp only [resolve, rangeCall, hvf, Deferred.ofValue, this, Sem.run_pure]
  ·simp only [invoke]; exact hfok.call _ _
  ·rcases hcall with ⟨_, hc⟩ | ⟨x, w', he, _⟩
   ·refine Fw.calls (hc.mono (fun e' w' hh => ?_))
    obtain ⟨x, rfl, ρ', hp3, _⟩ := hh
    have hp03 := hp.trans hp3
    obtain ⟨rfl, jump, w4, k1, k2, k3⟩ := rangeK_ok h6 hp3.rel (hp3.ren _ _ hid)
    have hfin : ∀ e', RX e e' → Q e' { a with defers := D.map mk ++ a.defers } w4 := fun e' hx => by
     have hpa := (hp03.trans k3).after e1
     refine hQ e' { a with defers := D.map mk ++ a.defers } w4 ρ' D ⟨⟨hpa.ren, hpa.new, fun b ob hb => ?_, hpa.rel, hfr.trans hpa.fr, hpa.next⟩, ht.mono hpa.ren hmle, hx, rfl, hD, hD0⟩
     have : b ∉ D := fun hd => by rw [hD.none b hd] at hb; cases hb
     unfold Mem.with; rw [if_neg this]; exact hb
    refine ⟨jump, w4, k1, ?_⟩
    subst k2
    cases e with
    | normal => exact hfin _ .normal
    | ret => exact wpIn_ret (hfin _ .ret)
    | exit j => exact wpIn_exit (hfin _ (.exit j))
   ·rw [hfok.call] at he
    injection he with he
    cases he
 | _ => rw [hvf] at hfv; cases hfv
end
end Go.Am
set_option linter.unusedSimpArgs false
set_option linter.unusedVariables false
namespace Go.Am
open Go
section
variable {α : Type} (base : Nat → α) (T : Nat → Nat → Prop) (V : Nat → Nat → α)
open Classical in
noncomputable def last (S : Nat → Prop) : Nat → Nat → α
 | 0, x => base x
 | k + 1, x => if S k ∧ T k x then V k x else last S k x
variable {base T V}
theorem last_agree {S : Nat → Prop} {n i : Nat} (hin : i ≤ n) {x : Nat} (h1 : ∀ j, j < i → T j x → S j) (h2 : ∀ k, i ≤ k → k < n → S k → ¬ T k x) : last base T V S n x = last base T V (fun _ => True) i x := by
 have tail : ∀ k, i ≤ k → k ≤ n → last base T V S k x = last base T V S i x := by
  intro k
  induction k with
  | zero =>
   intro h _; have : i = 0 := by omega
   subst this; rfl
  | succ k ih =>
   intro h hk
   by_cases e : i = k + 1
   ·subst e; rfl
   ·rw [← ih (by omega) (by omega)]
    simp only [last]
    rw [if_neg (fun hh => h2 k (by omega) (by omega) hh.1 hh.2)]
 rw [tail n hin (Nat.le_refl _)]
 clear tail h2 hin
 induction i with
 | zero => rfl
 | succ i ih =>
  simp only [last]
  by_cases ht : T i x
  ·rw [if_pos ⟨h1 i (by omega) ht, ht⟩, if_pos ⟨trivial, ht⟩]
  ·rw [if_neg (fun h => ht h.2), if_neg (fun h => ht h.2)]
   exact ih (fun j hj => h1 j (by omega))
open Classical in
theorem last_put {S : Nat → Prop} {i : Nat} (hi : ¬ S i) {x : Nat} : ∀ {n : Nat}, i < n → (T i x → ∀ k, i < k → k < n → S k → ¬ T k x) →
  last base T V (fun k => S k ∨ k = i) n x = if T i x then V i x else last base T V S n x := by
 have low : ∀ k, k ≤ i → last base T V (fun k => S k ∨ k = i) k x = last base T V S k x := by
  intro k
  induction k with
  | zero => intro _; rfl
  | succ k ih =>
   intro hk
   have : (S k ∨ k = i) ↔ S k := ⟨fun h => h.resolve_right (by omega), .inl⟩
   simp only [last, this, ih (by omega)]
 intro n
 induction n with
 | zero => intro h; omega
 | succ n ih =>
  intro hn h
  by_cases e : n = i
  ·subst e
   simp only [last, or_true, true_and, low n (Nat.le_refl _)]
   by_cases ht : T n x
   ·rw [if_pos ht, if_pos ht]
   ·rw [if_neg ht, if_neg ht, if_neg (fun h => hi h.1)]
  ·have hlt : i < n := by omega
   have ih' := ih hlt (fun ht k hk hkn => h ht k hk (by omega))
   simp only [last]
   have : (S n ∨ n = i) ↔ S n := ⟨fun h => h.resolve_right e, .inl⟩
   simp only [this, ih']
   by_cases hs : S n ∧ T n x
   ·have hnt : ¬ T i x := fun ht => h ht n hlt (by omega) hs.1 hs.2
    rw [if_pos hs, if_neg hnt, if_pos hs]
   ·rw [if_neg hs, if_neg hs]
end
theorem meets_false {x y : List Nat} (h : meets x y = false) {a : Nat} (ha : a ∈ x) (hb : a ∈ y) : False := by
 have : meets x y = true := List.any_eq_true.2 ⟨a, ha, List.any_eq_true.2 ⟨a, hb, Nat.beq_refl a⟩⟩
 rw [this] at h; cases h
theorem hits_false {x : List Nat} {f : Foot} (h : hits x f = false) {a : Nat} (ha : a ∈ x) (h1 : f.lo ≤ a) (h2 : a < f.hi) : False := by
 unfold hits at h
 split at h
 ·rename_i e
  have := Nat.eq_of_beq_eq_true e
  omega
 ·have : (x.any (within f.lo f.hi)) = true := List.any_eq_true.2 ⟨a, ha, by
   have h2' : a.blt f.hi = true := Nat.ble_eq_true_of_le h2
   simp [within, Nat.ble_eq_true_of_le h1, h2']⟩
  rw [this] at h; cases h
theorem clash_false {a b : Foot} (h : clash a b = false) : meets a.w b.r = false ∧ meets a.w b.w = false ∧ meets a.r b.w = false ∧ hits a.r b = false ∧ hits a.w b = false ∧ hits b.r a = false ∧ hits b.w a = false := by
 simpa [clash] using h
theorem not_old {lo hi x : Nat} (h : old lo hi x = false) : lo ≤ x ∧ x < hi := by
 simp only [old, Bool.or_eq_false_iff] at h
 refine ⟨?_, ?_⟩
 ·rcases Nat.lt_or_ge x lo with hl | hl
  ·have : x.blt lo = true := Nat.ble_eq_true_of_le hl
   rw [this] at h; cases h.1
  ·exact hl
 ·rcases Nat.lt_or_ge x hi with hl | hl
  ·exact hl
  ·have : hi.ble x = true := Nat.ble_eq_true_of_le hl
   rw [this] at h; cases h.2
theorem mem_old {l : List Nat} {lo hi x : Nat} (h : x ∈ l) : x ∈ l.filter (old lo hi) ∨ (lo ≤ x ∧ x < hi) := by
 cases e : old lo hi x with
 | true => exact .inl (List.mem_filter.2 ⟨h, e⟩)
 | false => exact .inr (not_old e)
theorem apart {r1 w1 r2 w2 : List Nat} {j1 j2 lo1 hi1 lo2 hi2 : Nat} (h : clash ⟨j1, r1.filter (old lo1 hi1), w1.filter (old lo1 hi1), lo1, hi1⟩ ⟨j2, r2.filter (old lo2 hi2), w2.filter (old lo2 hi2), lo2, hi2⟩ = false) (hlo : hi1 ≤ lo2) {x : Nat} :
  ((x ∈ r1 ∨ x ∈ w1 ∨ (lo1 ≤ x ∧ x < hi1)) → (x ∈ w2 ∨ (lo2 ≤ x ∧ x < hi2)) → False) ∧ ((x ∈ w1 ∨ (lo1 ≤ x ∧ x < hi1)) → (x ∈ r2 ∨ x ∈ w2 ∨ (lo2 ≤ x ∧ x < hi2)) → False) := by
 obtain ⟨c1, c2, c3, c4, c5, c6, c7⟩ := clash_false h
 simp only at c1 c2 c3 c4 c5 c6 c7
 have n12 : (lo1 ≤ x ∧ x < hi1) → (lo2 ≤ x ∧ x < hi2) → False := fun a b => by omega
 have w1n2 : x ∈ w1 → (lo2 ≤ x ∧ x < hi2) → False := fun a b => by
  rcases mem_old (lo := lo1) (hi := hi1) a with a | a
  ·exact hits_false c5 a b.1 b.2
  ·exact n12 a b
 have r1n2 : x ∈ r1 → (lo2 ≤ x ∧ x < hi2) → False := fun a b => by
  rcases mem_old (lo := lo1) (hi := hi1) a with a | a
  ·exact hits_false c4 a b.1 b.2
  ·exact n12 a b
 have n1w2 : (lo1 ≤ x ∧ x < hi1) → x ∈ w2 → False := fun a b => by
  rcases mem_old (lo := lo2) (hi := hi2) b with b | b
  ·exact hits_false c7 b a.1 a.2
  ·exact n12 a b
 have n1r2 : (lo1 ≤ x ∧ x < hi1) → x ∈ r2 → False := fun a b => by
  rcases mem_old (lo := lo2) (hi := hi2) b with b | b
  ·exact hits_false c6 b a.1 a.2
  ·exact n12 a b
 have w1w2 : x ∈ w1 → x ∈ w2 → False := fun a b => by
  rcases mem_old (lo := lo1) (hi := hi1) a with a' | a'
  ·rcases mem_old (lo := lo2) (hi := hi2) b with b' | b'
   ·exact meets_false c2 a' b'
   ·exact w1n2 a b'
  ·exact n1w2 a' b
 have r1w2 : x ∈ r1 → x ∈ w2 → False := fun a b => by
  rcases mem_old (lo := lo1) (hi := hi1) a with a' | a'
  ·rcases mem_old (lo := lo2) (hi := hi2) b with b' | b'
   ·exact meets_false c3 a' b'
   ·exact r1n2 a b'
  ·exact n1w2 a' b
 have w1r2 : x ∈ w1 → x ∈ r2 → False := fun a b => by
  rcases mem_old (lo := lo1) (hi := hi1) a with a' | a'
  ·rcases mem_old (lo := lo2) (hi := hi2) b with b' | b'
   ·exact meets_false c1 a' b'
   ·exact w1n2 a b'
  ·exact n1r2 a' b
 refine ⟨fun a b => ?_, fun a b => ?_⟩
 ·rcases a with a | a | a <;> rcases b with b | b
  ·exact r1w2 a b
  ·exact r1n2 a b
  ·exact w1w2 a b
  ·exact w1n2 a b
  ·exact n1w2 a b
  ·exact n12 a b
 ·rcases a with a | a <;> rcases b with b | b | b
  ·exact w1r2 a b
  ·exact w1w2 a b
  ·exact w1n2 a b
  ·exact n1r2 a b
  ·exact n1w2 a b
  ·exact n12 a b
def Ok2 (bs : List Nat) (b a : Foot) : Prop := clash a b = false ∨ (bs.getD b.j 0).testBit a.j = true
theorem fine_pairwise {bs : List Nat} : ∀ {fs : List Foot}, fine bs fs = true → fs.Pairwise (Ok2 bs)
 | [], _ => .nil
 | b :: l, h => by
  simp only [fine, Bool.and_eq_true, List.all_eq_true, Bool.or_eq_true] at h
  refine List.pairwise_cons.2 ⟨fun a ha => ?_, fine_pairwise h.2⟩
  rcases h.1 a ha with h | h
  ·exact .inl (by simpa using h)
  ·exact .inr h
theorem fine_at {bs : List Nat} {F : List Foot} (h : fine bs F.reverse = true) {i k : Nat} {a b : Foot} (hik : i < k) (ha : F[i]? = some a) (hb : F[k]? = some b) : Ok2 bs b a := by
 have hp := fine_pairwise h
 rw [List.pairwise_reverse] at hp
 obtain ⟨hk, hbk⟩ := List.getElem?_eq_some_iff.1 hb
 obtain ⟨hi, hai⟩ := List.getElem?_eq_some_iff.1 ha
 have := List.pairwise_iff_getElem.1 hp i k hi hk hik
 rw [hai, hbk] at this
 exact this
theorem bitsOf_spec {acc : List Nat} {i : Nat} : ∀ {es : List Edge}, (bitsOf acc es).testBit i = true → ∃ e ∈ es, Region.binds .any e = true ∧ (i = e.on ∨ (acc.getD e.on 0).testBit i = true)
 | [], h => by simp [bitsOf] at h
 | e :: l, h => by
  unfold bitsOf at h
  split at h
  ·rename_i hb
   rw [Nat.testBit_or, Nat.testBit_or, Bool.or_eq_true, Bool.or_eq_true] at h
   rcases h with h | h | h
   ·obtain ⟨e', h1, h2, h3⟩ := bitsOf_spec h
    exact ⟨e', List.mem_cons_of_mem _ h1, h2, h3⟩
   ·rw [Nat.testBit_two_pow] at h
    exact ⟨e, List.mem_cons_self, hb, .inl (of_decide_eq_true h).symm⟩
   ·exact ⟨e, List.mem_cons_self, hb, .inr h⟩
  ·obtain ⟨e', h1, h2, h3⟩ := bitsOf_spec h
   exact ⟨e', List.mem_cons_of_mem _ h1, h2, h3⟩
theorem befores_spec : ∀ (l : List Oper) (acc : List Nat), (∃ tl, befores acc l = acc ++ tl) ∧ ∀ k o, l[k]? = some o → (befores acc l).getD (acc.length + k) 0 = bitsOf ((befores acc l).take (acc.length + k)) o.after.toList := by
 intro l
 induction l with
 | nil => intro acc; exact ⟨⟨[], by simp [befores]⟩, fun k o h => by simp at h⟩
 | cons q l ih =>
  intro acc
  obtain ⟨⟨tl, h1⟩, h2⟩ := ih (acc ++ [bitsOf acc q.after.toList])
  refine ⟨⟨bitsOf acc q.after.toList :: tl, by simp only [befores, h1]; simp⟩, fun k o hk => ?_⟩
  cases k with
  | zero =>
   simp at hk
   subst hk
   simp only [befores, h1, Nat.add_zero, List.append_assoc]
   simp [List.getD_eq_getElem?_getD]
  | succ k =>
   have := h2 k o (by simpa using hk)
   simp only [List.length_append, List.length_singleton] at this
   simp only [befores]
   have e : acc.length + 1 + k = acc.length + (k + 1) := by omega
   rw [e] at this
   exact this
theorem backB_spec : ∀ (l : List Oper) (j : Nat), backB j l = true → ∀ k o, l[k]? = some o → ∀ e ∈ o.after, Region.binds .any e = true → e.on < j + k := by
 intro l
 induction l with
 | nil => intro j _ k o h; simp at h
 | cons q l ih =>
  intro j h k o hk e he hbe
  simp only [backB, Bool.and_eq_true, List.all_eq_true] at h
  cases k with
  | zero =>
   simp at hk
   subst hk
   have := h.1 e (by simpa using he)
   rw [hbe] at this
   exact Nat.le_of_ble_eq_true this
  | succ k =>
   have := ih (j + 1) h.2 k o (by simpa using hk) e he hbe
   omega
theorem closed_bits {l : List Oper} {S : Nat → Prop} (hb : backB 0 l = true) (hc : ∀ k o, S k → l[k]? = some o → ∀ e ∈ o.after, Region.binds .any e = true → S e.on) :
  ∀ (k : Nat) (o : Oper), l[k]? = some o → (∀ e ∈ o.after, Region.binds .any e = true → S e.on) → ∀ i, ((befores [] l).getD k 0).testBit i = true → S i := by
 intro k
 induction k using Nat.strongRecOn with
 | _ k ih =>
  intro o ho hs i hi
  have h1 := (befores_spec l []).2 k o ho
  simp only [List.length_nil, Nat.zero_add] at h1
  rw [h1] at hi
  obtain ⟨e, he, hbe, h⟩ := bitsOf_spec hi
  have he' : e ∈ o.after := by simpa using he
  have hse := hs e he' hbe
  have hlt := backB_spec l 0 hb k o ho e he' hbe
  simp only [Nat.zero_add] at hlt
  rcases h with rfl | h
  ·exact hse
  ·have hlk := (List.getElem?_eq_some_iff.1 ho).1
   obtain ⟨oe, hoe⟩ : ∃ oe, l[e.on]? = some oe := ⟨_, List.getElem?_eq_getElem (by omega)⟩
   refine ih e.on hlt oe hoe (hc e.on oe hse hoe) i ?_
   rw [List.getD_eq_getElem?_getD] at h ⊢
   rw [List.getElem?_take_of_lt hlt] at h
   exact h
variable {E : Env}
theorem mem_tmpsOf {t : Nat} : ∀ {l : List Operand}, Operand.tmp t ∈ l → t ∈ tmpsOf l
 | x :: l, h => by
  rcases List.mem_cons.1 h with h | h
  ·subst h; simp [tmpsOf]
  ·have := mem_tmpsOf h
   unfold tmpsOf
   split
   ·exact List.mem_cons_of_mem _ this
   ·exact this
theorem opd_congr {tm tm' : List AVal} {x : Operand} (h : ∀ t, x = .tmp t → nth tm t undef = nth tm' t undef) : opd tm x = opd tm' x := by
 cases x with
 | tmp t => exact h t rfl
 | _ => rfl
theorem opds_congr {tm tm' : List AVal} : ∀ {l : List Operand}, (∀ x ∈ l, opd tm x = opd tm' x) → opds tm l = opds tm' l
 | [], _ => rfl
 | x :: l, h => by
  simp only [opds, h x List.mem_cons_self, opds_congr (l := l) (fun y hy => h y (List.mem_cons_of_mem _ hy))]
theorem ops2_congr {tm tm' : List AVal} : ∀ {l : List (Nat × Operand)}, (∀ x ∈ l.map (·.2), opd tm x = opd tm' x) → ops2 tm l = ops2 tm' l
 | [], _ => rfl
 | x :: l, h => by
  simp only [ops2, h x.2 (by simp), ops2_congr (l := l) (fun y hy => h y (by simp at hy ⊢; exact .inr hy))]
theorem execOp_congr {rec : Rec} {tm tm' : List AVal} {op : Op} (h : ∀ x ∈ op.operands, opd tm x = opd tm' x) : execOp E rec tm op = execOp E rec tm' op := by
 cases op <;> simp only [Op.operands] at h <;> simp only [execOp]
 case build t ps => rw [ops2_congr (fun x hx => h x (by simpa using hx))]
 case buildSlice t n ps => rw [ops2_congr (fun x hx => h x (by simpa using hx))]
 case makeFunc fn first captured =>
  rw [opds_congr (l := first.toList) (fun x hx => h x (by simp at hx; simp [hx])), opds_congr (l := captured.toList) (fun x hx => h x (by simp at hx; simp [hx]))]
 case slice t x lo hi mx =>
  have hx := h x (by simp)
  have hlo : opt tm lo = opt tm' lo := by cases lo with | none => rfl | some y => simp only [opt]; rw [h y (by simp)]
  have hhi : opt tm hi = opt tm' hi := by cases hi with | none => rfl | some y => simp only [opt]; rw [h y (by simp)]
  have hmx : opt tm mx = opt tm' mx := by cases mx with | none => rfl | some y => simp only [opt]; rw [h y (by simp)]
  rw [hx, hlo, hhi, hmx]
 case makeMap t r =>
  have hr : opt tm r = opt tm' r := by cases r with | none => rfl | some y => simp only [opt]; rw [h y (by simp)]
  rw [hr]
 case call c =>
  obtain ⟨callee, args, tys⟩ := c
  simp only [Call.operands] at h
  simp only [doCall]
  have ha : opds tm args.toList = opds tm' args.toList := opds_congr (fun x hx => h x (by simp at hx; simp [hx]))
  rw [ha]
  cases callee with
  | value f => simp only; rw [h f (by simp)]
  | _ => rfl
 all_goals first | rfl | (simp_all; done)
theorem opV_congr {rec : Rec} {ops : List Oper} {o : Oper} {tm tm' : List AVal} (h : ∀ t ∈ looks ops o, nth tm t undef = nth tm' t undef) : opV E rec ops o tm = opV E rec ops o tm' := by
 have h1 : execOp E rec tm o.op = execOp E rec tm' o.op := execOp_congr (fun x hx => opd_congr (fun t ht => by
  subst ht
  exact h t (List.mem_append_left _ (mem_tmpsOf (by simpa using hx)))))
 have h2 : wanted ops tm o.guard = wanted ops tm' o.guard := by
  unfold wanted
  cases hg : o.guard with
  | none => rfl
  | some p =>
   simp only
   cases hd : (ops[p.1]?).bind (·.dst) with
   | none => rfl
   | some d => simp only; rw [h d (by simp [looks, hg, hd])]
 unfold opV
 rw [h1, h2]
end Go.Am
set_option linter.unusedSimpArgs false
set_option linter.unusedVariables false
namespace Go.Am
open Go
variable {E : Env}
structure Ev where
 s : St
 v : AVal
 s' : St
 r : List Nat
 w : List Nat
 o : List Bool
structure Tra (E : Env) (rec : Rec) (ops : List Oper) (j : Nat) (l : List Oper) (tm : List AVal) (s : St) (tm' : List AVal) (s' : St) (F : List Foot) (ev : Nat → Ev) (hp : Nat → Tr) (nx : Nat → Nat) (tv : Nat → List AVal) : Prop where
 h0 : hp 0 = s.heap
 hN : hp l.length = s'.heap
 n0 : nx 0 = s.next
 nN : nx l.length = s'.next
 t0 : tv 0 = tm
 tN : tv l.length = tm'
 foot : F.length = l.length
 heap : ∀ k, k < l.length → (ev k).s.heap = hp k ∧ (ev k).s'.heap = hp (k + 1)
 next : ∀ k, k < l.length → (ev k).s.next = nx k ∧ (ev k).s'.next = nx (k + 1)
 tmps : ∀ k o, l[k]? = some o → tv (k + 1) = putT (tv k) o.dst (ev k).v
 did : ∀ k o, l[k]? = some o → (opV E rec ops o (tv k)).run (ev k).s = .ok (ev k).v (ev k).s' ∧ Did (opV E rec ops o (tv k)).run (ev k).s (ev k).v (ev k).s' (ev k).r (ev k).w (ev k).o
 ok : ∀ k, k < l.length → (ev k).o.all id = true
 feet : ∀ k, k < l.length → F[k]? = some ⟨j + k, (ev k).r.filter (old (nx k) (nx (k + 1))), (ev k).w.filter (old (nx k) (nx (k + 1))), nx k, nx (k + 1)⟩
def shift {α : Type} (a : α) (f : Nat → α) : Nat → α
 | 0 => a
 | k + 1 => f k
theorem evalFeet_tra {rec : Rec} {ops : List Oper} : ∀ (l : List Oper) (j : Nat) (tm : List AVal) (fs : List Foot) (s : St) (tm' : List AVal) (fs' : List Foot) (s' : St), (evalFeet E rec ops j l tm fs).run s = .ok (tm', fs') s' → OkObs s' →
  ∃ F ev hp nx tv, fs' = F.reverse ++ fs ∧ Tra E rec ops j l tm s tm' s' F ev hp nx tv := by
 intro l
 induction l with
 | nil =>
  intro j tm fs s tm' fs' s' h ho
  obtain ⟨he, rfl⟩ := pure_ok h
  injection he with q1 q2
  subst q1; subst q2
  exact ⟨[], fun _ => ⟨s', undef, s', [], [], []⟩, fun _ => s'.heap, fun _ => s'.next, fun _ => tm', by simp, ⟨rfl, rfl, rfl, rfl, rfl, rfl, rfl, fun k hk => by simp at hk, fun k hk => by simp at hk, fun k o hk => by simp at hk, fun k o hk => by simp at hk,
   fun k hk => by simp at hk, fun k hk => by simp at hk⟩⟩
 | cons o l ih =>
  intro j tm fs s tm' fs' s' h ho
  obtain ⟨⟨v, f⟩, s1, h1, h2, ho1, _, _⟩ := M.bind_did h ho
  obtain ⟨F, ev, hp, nx, tv, e1, t⟩ := ih (j + 1) _ _ s1 tm' fs' s' h2 ho
  have h1 : footF j (opV E rec ops o tm) s = .ok (v, f) s1 := h1
  unfold footF at h1
  cases hm : (opV E rec ops o tm).run { s with rds := [], wrs := [] } with
  | fail w => rw [hm] at h1; cases h1
  | ask b => rw [hm] at h1; cases h1
  | ok a1 sa =>
   rw [hm] at h1
   injection h1 with q1 q2
   injection q1 with q3 q4
   subst q3
   obtain ⟨r, w, ob, d⟩ := (opV E rec ops o tm).loc _ _ _ hm
   have er : sa.rds = r := by simpa using d.rds
   have ew : sa.wrs = w := by simpa using d.wrs
   have eo : sa.obs = ob ++ s.obs := d.obs
   subst q2
   refine ⟨f :: F, shift ⟨{ s with rds := [], wrs := [] }, a1, sa, r, w, ob⟩ ev, shift s.heap hp, shift s.next nx, shift tm tv, by rw [e1]; simp, ⟨rfl, ?_, rfl, ?_, rfl, ?_, by simp [t.foot], ?_, ?_, ?_, ?_, ?_, ?_⟩⟩
   ·simpa [shift] using t.hN
   ·simpa [shift] using t.nN
   ·simpa [shift] using t.tN
   ·intro k hk
    cases k with
    | zero => exact ⟨rfl, by simpa [shift] using t.h0.symm⟩
    | succ k => simpa [shift] using t.heap k (by simpa using hk)
   ·intro k hk
    cases k with
    | zero => exact ⟨rfl, by simpa [shift] using t.n0.symm⟩
    | succ k => simpa [shift] using t.next k (by simpa using hk)
   ·intro k o' hk
    cases k with
    | zero =>
     simp at hk; subst hk
     simpa [shift] using t.t0
    | succ k => simpa [shift] using t.tmps k o' (by simpa using hk)
   ·intro k o' hk
    cases k with
    | zero =>
     simp at hk; subst hk
     exact ⟨hm, d⟩
    | succ k => simpa [shift] using t.did k o' (by simpa using hk)
   ·intro k hk
    cases k with
    | zero =>
     simp only [shift]
     unfold OkObs at ho1
     simp only [eo, List.all_append, Bool.and_eq_true] at ho1
     exact ho1.1
    | succ k => simpa [shift] using t.ok k (by simpa using hk)
   ·intro k hk
    cases k with
    | zero =>
     have hn0 : nx 0 = sa.next := t.n0
     simp only [shift, List.getElem?_cons_zero, hn0, Nat.add_zero]
     rw [← q4, er, ew]
    | succ k =>
     have := t.feet k (by simpa using hk)
     simp only [shift, List.getElem?_cons_succ]
     have e : j + 1 + k = j + (k + 1) := by omega
     rw [e] at this
     exact this
theorem textFeet_eq {ops : List Oper} : ∀ (l : List Oper) (j : Nat) (fs : List Foot), ∃ F : List Foot, textFeet ops j l fs = F.reverse ++ fs ∧ ∀ (k : Nat) (o : Oper), l[k]? = some o → F[k]? = some ⟨j + k, looks ops o, o.dst.toList, 0, 0⟩ := by
 intro l
 induction l with
 | nil => intro j fs; exact ⟨[], by simp [textFeet], fun k o h => by simp at h⟩
 | cons q l ih =>
  intro j fs
  obtain ⟨F, h1, h2⟩ := ih (j + 1) (⟨j, looks ops q, q.dst.toList, 0, 0⟩ :: fs)
  refine ⟨⟨j, looks ops q, q.dst.toList, 0, 0⟩ :: F, by simp only [textFeet, h1]; simp, fun k o hk => ?_⟩
  cases k with
  | zero => simp at hk; subst hk; simp
  | succ k =>
   have := h2 k o (by simpa using hk)
   have e : j + 1 + k = j + (k + 1) := by omega
   rw [e] at this
   simpa using this
theorem Tra.mono {rec : Rec} {ops : List Oper} {j : Nat} {l : List Oper} {tm tm' : List AVal} {s s' : St} {F : List Foot} {ev : Nat → Ev} {hp : Nat → Tr} {nx : Nat → Nat} {tv : Nat → List AVal}
  (t : Tra E rec ops j l tm s tm' s' F ev hp nx tv) : ∀ i k, i ≤ k → k ≤ l.length → nx i ≤ nx k := by
 intro i k
 induction k with
 | zero =>
  intro h _; have : i = 0 := by omega
  subst this; exact Nat.le_refl _
 | succ k ih =>
  intro h hk
  by_cases e : i = k + 1
  ·subst e; exact Nat.le_refl _
  ·have h1 := ih (by omega) (by omega)
   obtain ⟨o, ho⟩ : ∃ o, l[k]? = some o := ⟨_, List.getElem?_eq_getElem (by omega)⟩
   have h2 := (t.did k o ho).2.next
   rw [(t.next k (by omega)).1, (t.next k (by omega)).2] at h2
   omega
theorem length_putT (tm : List AVal) (d : Option Tmp) (v : AVal) : (putT tm d v).length = tm.length := by
 cases d with
 | none => rfl
 | some d => exact put_length tm d v
theorem get_putT (tm : List AVal) (d : Option Tmp) (v : AVal) (x : Nat) : (putT tm d v)[x]? = if d = some x then (if x < tm.length then some v else none) else tm[x]? := by
 cases d with
 | none => simp [putT]
 | some d =>
  simp only [putT, put_get, Option.some.injEq]
  by_cases e : x = d
  ·subst e
   by_cases hl : x < tm.length
   ·simp [hl]
   ·have hl' : tm.length ≤ x := Nat.not_lt.1 hl
    simp [hl, List.getElem?_eq_none hl']
  ·have e' : ¬ d = x := fun h => e h.symm
   simp [e, e']
theorem Tra.len {rec : Rec} {ops : List Oper} {j : Nat} {l : List Oper} {tm tm' : List AVal} {s s' : St} {F : List Foot} {ev : Nat → Ev} {hp : Nat → Tr} {nx : Nat → Nat} {tv : Nat → List AVal}
  (t : Tra E rec ops j l tm s tm' s' F ev hp nx tv) : ∀ k, k ≤ l.length → (tv k).length = tm.length := by
 intro k
 induction k with
 | zero => intro _; rw [t.t0]
 | succ k ih =>
  intro hk
  obtain ⟨o, ho⟩ : ∃ o, l[k]? = some o := ⟨_, List.getElem?_eq_getElem (by omega)⟩
  rw [t.tmps k o ho, length_putT, ih (by omega)]
def TH (ev : Nat → Ev) (nx : Nat → Nat) (k x : Nat) : Prop := x ∈ (ev k).w ∨ (nx k ≤ x ∧ x < nx (k + 1))
def TT (l : List Oper) (k x : Nat) : Prop := ∃ o, l[k]? = some o ∧ o.dst = some x
theorem Tra.heaps {rec : Rec} {ops : List Oper} {j : Nat} {l : List Oper} {tm tm' : List AVal} {s s' : St} {F : List Foot} {ev : Nat → Ev} {hp : Nat → Tr} {nx : Nat → Nat} {tv : Nat → List AVal}
  (t : Tra E rec ops j l tm s tm' s' F ev hp nx tv) (x : Nat) : ∀ k, k ≤ l.length → last s.heap.get (TH ev nx) (fun k x => (hp (k + 1)).get x) (fun _ => True) k x = (hp k).get x := by
 intro k
 induction k with
 | zero => intro _; simp only [last, t.h0]
 | succ k ih =>
  intro hk
  simp only [last]
  split
  ·rfl
  ·rename_i h
   have hn : ¬ TH ev nx k x := fun hh => h ⟨trivial, hh⟩
   obtain ⟨o, ho⟩ : ∃ o, l[k]? = some o := ⟨_, List.getElem?_eq_getElem (by omega)⟩
   have hr := (t.did k o ho).2.rest x (fun hh => hn (.inl hh)) (fun hh => hn (.inr (by
    have := hh.1; have := hh.2
    rw [(t.next k (by omega)).1] at *
    rw [(t.next k (by omega)).2] at *
    exact ⟨by assumption, by assumption⟩)))
   rw [(t.heap k (by omega)).1, (t.heap k (by omega)).2] at hr
   rw [ih (by omega), hr]
theorem Tra.tmpsAt {rec : Rec} {ops : List Oper} {j : Nat} {l : List Oper} {tm tm' : List AVal} {s s' : St} {F : List Foot} {ev : Nat → Ev} {hp : Nat → Tr} {nx : Nat → Nat} {tv : Nat → List AVal}
  (t : Tra E rec ops j l tm s tm' s' F ev hp nx tv) (x : Nat) : ∀ k, k ≤ l.length → last (fun x => tm[x]?) (TT l) (fun k x => (tv (k + 1))[x]?) (fun _ => True) k x = (tv k)[x]? := by
 intro k
 induction k with
 | zero => intro _; simp only [last, t.t0]
 | succ k ih =>
  intro hk
  simp only [last]
  split
  ·rfl
  ·rename_i h
   obtain ⟨o, ho⟩ : ∃ o, l[k]? = some o := ⟨_, List.getElem?_eq_getElem (by omega)⟩
   have hd : ¬ o.dst = some x := fun hh => h ⟨trivial, o, ho, hh⟩
   rw [ih (by omega), t.tmps k o ho, get_putT, if_neg hd]
theorem count_set : ∀ (l : List Bool) (i : Nat), l[i]? = some false → ((l.set i true).filter (!·)).length + 1 = (l.filter (!·)).length
 | [], i, h => by simp at h
 | b :: l, 0, h => by simp at h; subst h; simp
 | b :: l, i + 1, h => by
  have := count_set l i (by simpa using h)
  cases b <;> simp at this ⊢ <;> omega
theorem count_zero : ∀ (l : List Bool), (l.filter (!·)).length = 0 → ∀ (i : Nat) (b : Bool), l[i]? = some b → b = true
 | [], _, i, b, h => by simp at h
 | c :: l, hz, i, b, h => by
  cases c with
  | false => simp at hz
  | true =>
   cases i with
   | zero => simp at h; exact h.symm ▸ rfl
   | succ i => exact count_zero l (by simpa using hz) i b (by simpa using h)
section
variable {ρ₀ : Ren} {m : Mem} {s s' : St} {w₀ : World}
structure Inv (E : Env) (ρ₀ : Ren) (m : Mem) (s : St) (w₀ : World) (a₀ : Act) (l : List Oper) (tm : List AVal) (ev : Nat → Ev) (hp : Nat → Tr) (nx : Nat → Nat) (tv : Nat → List AVal) (S : Nat → Prop) (a : Act) (w : World) (ρ : Ren) (h : Tr) (ts : List AVal) : Prop where
 heap : ∀ x, h.get x = last s.heap.get (TH ev nx) (fun k x => (hp (k + 1)).get x) S l.length x
 len : ts.length = tm.length
 tmps : ∀ x : Nat, ts[x]? = last (fun x => tm[x]?) (TT l) (fun k x => (tv (k + 1))[x]?) S l.length x
 closed : ∀ k o, S k → l[k]? = some o → ∀ e ∈ o.after, Region.binds .any e = true → S e.on
 rel : Rel E.P ρ m h.get w
 rl : RL ρ m ts a.tmps
 ren : RenLe ρ₀ ρ
 new : ∀ id, ρ id ≠ none → ρ₀ id ≠ none ∨ ∃ k, S k ∧ k < l.length ∧ nx k ≤ id ∧ id < nx (k + 1)
 fr : Fr w₀ w
 defers : a.defers = a₀.defers
theorem Inv.step {rec : Rec} (hrec : SimC E.P rec) {ops : Array Oper} {tm tm' : List AVal} {F : List Foot} {ev : Nat → Ev} {hp : Nat → Tr} {nx : Nat → Nat} {tv : Nat → List AVal} {a₀ a : Act} {w : World} {ρ : Ren} {h : Tr} {ts : List AVal} {S : Nat → Prop}
  (t : Tra E rec ops.toList 0 ops.toList tm s tm' s' F ev hp nx tv) (hback : backB 0 ops.toList = true) (hfine : fine (befores [] ops.toList) F.reverse = true) (htext : fine (befores [] ops.toList) (textFeet ops.toList 0 ops.toList []) = true) (hfr : Fresh ρ₀ s s')
  (I : Inv E ρ₀ m s w₀ a₀ ops.toList tm ev hp nx tv S a w ρ h ts) {i : Nat} {o : Oper} (hi : ops[i]? = some o) (hS : ¬ S i) (hall : ∀ e ∈ o.after, Region.binds .any e = true → S e.on) {ro : Option Nat} {n : Nat} {Q : Exit → Act → World → Prop} {next : Act → World → Prop}
  (hk : ∀ x w' ρ' h' ts', Inv E ρ₀ m s w₀ a₀ ops.toList tm ev hp nx tv (fun k => S k ∨ k = i) (a.put o.dst x) w' ρ' h' ts' → next (a.put o.dst x) w') :
  if Region.wanted o (yielded ops a.tmps) then o.wpIn (Fw ro) n E.P a w next Q else (∀ f, o.about E.P w a.eval = some f → (Fw ro).fn f) ∧ next (a.put o.dst Go.undef) w := by
 have hil : i < ops.toList.length := by simpa using (Array.getElem?_eq_some_iff.1 hi).1
 have hi' : ops.toList[i]? = some o := by simpa using hi
 have ahead : ∀ j, ((befores [] ops.toList).getD i 0).testBit j = true → S j := closed_bits hback I.closed i o hi' hall
 have behind : ∀ k, i < k → k < ops.toList.length → S k → ((befores [] ops.toList).getD k 0).testBit i = true → False := fun k _ hk hs hb => by
  obtain ⟨ok, hok⟩ : ∃ ok, ops.toList[k]? = some ok := ⟨_, List.getElem?_eq_getElem hk⟩
  exact hS (closed_bits hback I.closed k ok hok (I.closed k ok hs hok) i hb)
 have sep : ∀ j k, j < k → k < ops.toList.length → ((befores [] ops.toList).getD k 0).testBit j ≠ true → ∀ x,
   ((x ∈ (ev j).r ∨ x ∈ (ev j).w ∨ (nx j ≤ x ∧ x < nx (j + 1))) → TH ev nx k x → False) ∧ (TH ev nx j x → (x ∈ (ev k).r ∨ x ∈ (ev k).w ∨ (nx k ≤ x ∧ x < nx (k + 1))) → False) := by
  intro j k hjk hk hb x
  have := fine_at hfine hjk (t.feet j (by omega)) (t.feet k hk)
  have hc := this.resolve_right (by simpa using hb)
  exact apart hc (t.mono (j + 1) k (by omega) (by omega))
 have sepT : ∀ j k oj ok, j < k → ops.toList[j]? = some oj → ops.toList[k]? = some ok → ((befores [] ops.toList).getD k 0).testBit j ≠ true → ∀ x,
   ((x ∈ looks ops.toList oj ∨ oj.dst = some x) → ok.dst = some x → False) ∧ (oj.dst = some x → (x ∈ looks ops.toList ok ∨ ok.dst = some x) → False) := by
  intro j k oj ok hjk hj hk hb x
  obtain ⟨FT, e1, e2⟩ := textFeet_eq (ops := ops.toList) ops.toList 0 []
  rw [e1, List.append_nil] at htext
  have := fine_at htext hjk (e2 j oj hj) (e2 k ok hk)
  have hb' : ((befores [] ops.toList).getD (0 + k) 0).testBit (0 + j) ≠ true := by simpa using hb
  obtain ⟨c1, c2, c3, _⟩ := clash_false (this.resolve_right hb')
  simp only at c1 c2 c3
  refine ⟨fun hx hd => ?_, fun hd hx => ?_⟩
  ·rcases hx with hx | hx
   ·exact meets_false c3 hx (by simp [hd])
   ·exact meets_false c2 (a := x) (by simp [hx]) (by simp [hd])
  ·rcases hx with hx | hx
   ·exact meets_false c1 (a := x) (by simp [hd]) hx
   ·exact meets_false c2 (a := x) (by simp [hd]) (by simp [hx])
 obtain ⟨hrun, hd⟩ := t.did i o hi'
 obtain ⟨n1, n2⟩ := t.next i hil
 obtain ⟨g1, g2⟩ := t.heap i hil
 have hnew : ∀ x, New (ev i).s (ev i).s' x ↔ (nx i ≤ x ∧ x < nx (i + 1)) := fun x => by unfold New; rw [n1, n2]
 have agree : ∀ x, (x ∈ (ev i).r ∨ x ∈ (ev i).w ∨ (nx i ≤ x ∧ x < nx (i + 1))) → h.get x = (hp i).get x := by
  intro x hx
  rw [I.heap x, last_agree (i := i) (by omega), t.heaps x i (by omega)]
  ·intro j hj hT
   by_cases hb : ((befores [] ops.toList).getD i 0).testBit j = true
   ·exact ahead j hb
   ·exact ((sep j i hj hil hb x).2 hT hx).elim
  ·intro k hk hkn hs hT
   have hne : i ≠ k := fun e => hS (e ▸ hs)
   by_cases hb : ((befores [] ops.toList).getD k 0).testBit i = true
   ·exact behind k (by omega) hkn hs hb
   ·exact (sep i k (by omega) hkn hb x).1 hx hT
 have agreeT : ∀ x ∈ looks ops.toList o, nth ts x undef = nth (tv i) x undef := by
  intro x hx
  rw [nth_get, nth_get, I.tmps x, last_agree (i := i) (by omega), t.tmpsAt x i (by omega)]
  ·rintro j hj ⟨oj, hoj, hdj⟩
   by_cases hb : ((befores [] ops.toList).getD i 0).testBit j = true
   ·exact ahead j hb
   ·exact ((sepT j i oj o hj hoj hi' hb x).2 hdj (.inl hx)).elim
  ·rintro k hk hkn hs ⟨ok, hok, hdk⟩
   have hne : i ≠ k := fun e => hS (e ▸ hs)
   by_cases hb : ((befores [] ops.toList).getD k 0).testBit i = true
   ·exact behind k (by omega) hkn hs hb
   ·exact (sepT i k o ok (by omega) hi' hok hb x).1 (.inl hx) hdk
 obtain ⟨t', ht', q1, q2, q3, q4, q5, q6, q7⟩ := hd.again { heap := h, next := nx i, rds := [], wrs := [], obs := [], orc := (ev i).s.orc } n1.symm rfl (fun x hx => by
  rw [g1]
  refine agree x ?_
  rcases hx with hx | hx | hx
  ·exact .inl hx
  ·exact .inr (.inl hx)
  ·exact .inr (.inr ((hnew x).1 hx)))
 have hok : OkObs t' := by unfold OkObs; rw [q5]; simpa using t.ok i hil
 rw [opV_congr (tm := tv i) (tm' := ts) (fun x hx => (agreeT x hx).symm)] at ht'
 have hfresh : Fresh ρ { heap := h, next := nx i, rds := [], wrs := [], obs := [], orc := (ev i).s.orc } t' := by
  intro id hid
  have h1 : nx i ≤ id := hid.1
  have h2 : id < nx (i + 1) := by have := hid.2; rw [q1, n2] at this; exact this
  cases e : ρ id with
  | none => rfl
  | some r =>
   rcases I.new id (by rw [e]; simp) with h0 | ⟨k, hsk, hkl, hk1, hk2⟩
   ·refine absurd (hfr id ⟨?_, ?_⟩) h0
    ·have := t.mono 0 i (by omega) (by omega); rw [t.n0] at this; omega
    ·have := t.mono (i + 1) ops.toList.length (by omega) (by omega); rw [t.nN] at this; omega
   ·have hne : i ≠ k := fun e => hS (e ▸ hsk)
    rcases Nat.lt_or_ge i k with hlt | hge
    ·have := t.mono (i + 1) k (by omega) (by omega); omega
    ·have := t.mono (k + 1) i (by omega) (by omega); omega
 refine opV_sim hrec ht' hok I.rel hfresh I.rl (fun x w' ρ' hpost hx => ?_)
 refine hk x w' ρ' t'.heap (putT ts o.dst (ev i).v) ⟨fun y => ?_, by rw [length_putT, I.len], fun y => ?_, ?_, hpost.rel, put_sim (I.rl.mono hpost.ren hpost.mle) o.dst hx, fun id r hr => hpost.ren id r (I.ren id r hr), fun id hid => ?_,
  I.fr.trans hpost.fr, by rw [Act.put_defers, I.defers]⟩
 ·rw [last_put hS hil]
  ·by_cases hT : TH ev nx i y
   ·rw [if_pos hT]
    have := q6 y (by
     rcases hT with hT | hT
     ·exact .inl hT
     ·exact .inr ((hnew y).2 hT))
    rw [this, g2]
   ·rw [if_neg hT]
    have := q7 y (fun hh => hT (.inl hh)) (fun hh => hT (.inr ((hnew y).1 hh)))
    rw [this]
    exact I.heap y
  ·intro hT k hik hkn hs hTk
   by_cases hb : ((befores [] ops.toList).getD k 0).testBit i = true
   ·exact behind k hik hkn hs hb
   ·exact (sep i k hik hkn hb y).1 (hT.imp (fun h => h) (fun h => h) |>.elim (fun h => .inr (.inl h)) (fun h => .inr (.inr h))) hTk
 ·rw [last_put hS hil]
  ·by_cases hT : TT ops.toList i y
   ·rw [if_pos hT]
    obtain ⟨o', ho', hdo⟩ := hT
    rw [hi'] at ho'
    injection ho' with ho'
    subst ho'
    rw [t.tmps i o hi', get_putT, get_putT, if_pos hdo, if_pos hdo, I.len, t.len i (by omega)]
   ·rw [if_neg hT]
    have hdo : ¬ o.dst = some y := fun hh => hT ⟨o, hi', hh⟩
    rw [get_putT, if_neg hdo]
    exact I.tmps y
  ·rintro ⟨o', ho', hdo⟩ k hik hkn hs ⟨ok, hok', hdk⟩
   by_cases hb : ((befores [] ops.toList).getD k 0).testBit i = true
   ·exact behind k hik hkn hs hb
   ·exact (sepT i k o' ok hik ho' hok' hb y).1 (.inr hdo) hdk
 ·intro k ok hs hok' e he hbe
  rcases hs with hs | rfl
  ·exact .inl (I.closed k ok hs hok' e he hbe)
  ·rw [hi'] at hok'
   injection hok' with hok'
   subst hok'
   exact .inl (hall e he hbe)
 ·rcases hpost.new id hid with h1 | h1
  ·rcases I.new id h1 with h2 | ⟨k, hsk, h3⟩
   ·exact .inl h2
   ·exact .inr ⟨k, .inl hsk, h3⟩
  ·refine .inr ⟨i, .inr rfl, hil, h1.1, ?_⟩
   have := h1.2
   rw [q1, n2] at this
   exact this
theorem any_sim {rec : Rec} (hrec : SimC E.P rec) {ops : Array Oper} {tm tm' : List AVal} {F : List Foot} {ev : Nat → Ev} {hp : Nat → Tr} {nx : Nat → Nat} {tv : Nat → List AVal} {a₀ : Act}
  (t : Tra E rec ops.toList 0 ops.toList tm s tm' s' F ev hp nx tv) (hback : backB 0 ops.toList = true) (hfine : fine (befores [] ops.toList) F.reverse = true) (htext : fine (befores [] ops.toList) (textFeet ops.toList 0 ops.toList []) = true) (hfr : Fresh ρ₀ s s')
  {ro : Option Nat} {n : Nat} {Q : Exit → Act → World → Prop} (hQ : ∀ a' w' ρ', Post E.P ρ₀ m s w₀ ρ' m s' w' → RL ρ' m tm' a'.tmps → a'.defers = a₀.defers → Q .normal a' w') :
  ∀ (fuel : Nat) (listed : Array Bool), listed.size = ops.size → (listed.toList.filter (!·)).length ≤ fuel → ∀ a w ρ h ts, Inv E ρ₀ m s w₀ a₀ ops.toList tm ev hp nx tv (fun k => listed.getD k false = true) a w ρ h ts →
   wpAnyIn (Fw ro) n E.P .any ops Q fuel listed a w := by
 intro fuel
 have lst : ∀ (listed : Array Bool), listed.size = ops.size → ∀ k, listed.getD k true = false ↔ (k < ops.size ∧ ¬ listed.getD k false = true) := by
  intro listed hsz k
  by_cases hk : k < ops.size
  ·have : k < listed.size := by omega
   simp [Array.getD, this, hk]
  ·have : ¬ k < listed.size := by omega
   simp [Array.getD, this, hk]
 have done : ∀ (listed : Array Bool), listed.size = ops.size → Region.ready .any ops listed = [] → ∀ a w ρ h ts, Inv E ρ₀ m s w₀ a₀ ops.toList tm ev hp nx tv (fun k => listed.getD k false = true) a w ρ h ts → Q .normal a w := by
  intro listed hsz hr a w ρ h ts I
  have all : ∀ k, k < ops.size → listed.getD k false = true := by
   intro k
   induction k using Nat.strongRecOn with
   | _ k ih =>
    intro hk
    by_cases hl : listed.getD k false = true
    ·exact hl
    ·have ho : ops[k]? = some ops[k] := Array.getElem?_eq_getElem hk
     have : k ∈ Region.ready .any ops listed := mem_ready.2 ⟨(lst listed hsz k).2 ⟨hk, hl⟩, ops[k], ho, fun e he hb => by
      have := backB_spec ops.toList 0 hback k ops[k] (by rw [Array.getElem?_toList]; exact ho) e he hb
      exact ih e.on (by omega) (by omega)⟩
     rw [hr] at this
     cases this
  have hT : ∀ {α : Type} (base : Nat → α) (T : Nat → Nat → Prop) (V : Nat → Nat → α) (x : Nat), last base T V (fun k => listed.getD k false = true) ops.toList.length x = last base T V (fun _ => True) ops.toList.length x := by
   intro α base T V x
   exact last_agree (Nat.le_refl _) (fun j hj _ => all j (by simpa using hj)) (fun k hk hk' => by omega)
  refine hQ a w ρ ⟨I.ren, fun id hid => ?_, fun _ _ h => h, I.rel.congr (fun id => ?_), I.fr, ?_⟩ ?_ I.defers
  ·rcases I.new id hid with h0 | ⟨k, _, hkl, h1, h2⟩
   ·exact .inl h0
   ·refine .inr ⟨?_, ?_⟩
    ·have := t.mono 0 k (by omega) (by omega); rw [t.n0] at this; omega
    ·have := t.mono (k + 1) ops.toList.length (by omega) (by omega); rw [t.nN] at this; omega
  ·rw [I.heap id, hT, t.heaps id _ (Nat.le_refl _), t.hN]
  ·have := t.mono 0 ops.toList.length (by omega) (by omega); rw [t.n0, t.nN] at this; exact this
  ·have : ts = tm' := by
    apply List.ext_getElem?
    intro x
    rw [I.tmps x, hT, t.tmpsAt x _ (Nat.le_refl _), t.tN]
   rw [← this]; exact I.rl
 induction fuel with
 | zero =>
  intro listed hsz hc a w ρ h ts I
  have hr : Region.ready .any ops listed = [] := by
   cases hr : Region.ready .any ops listed with
   | nil => rfl
   | cons j l =>
    have hj : j ∈ Region.ready .any ops listed := by rw [hr]; exact List.mem_cons_self
    obtain ⟨h1, o, h2, _⟩ := mem_ready.1 hj
    have hj' := (lst listed hsz j).1 h1
    have hlt : j < listed.size := by omega
    have := count_zero listed.toList (by omega) j listed[j] (by simp [hlt])
    exfalso
    apply hj'.2
    simp [Array.getD, hlt, this]
  exact ⟨hr, done listed hsz hr a w ρ h ts I⟩
 | succ fuel ih =>
  intro listed hsz hc a w ρ h ts I
  refine ⟨fun hr => done listed hsz hr a w ρ h ts I, fun i hi => ?_⟩
  obtain ⟨h1, o, h2, h3⟩ := mem_ready.1 hi
  have hi' := (lst listed hsz i).1 h1
  unfold wpOpIn
  rw [h2]
  refine I.step hrec t hback hfine htext hfr h2 hi'.2 h3 (fun x w' ρ' h' ts' I' => ?_)
  refine ih (listed.setIfInBounds i true) (by simpa using hsz) ?_ _ w' ρ' h' ts' ?_
  ·have hlt : i < listed.size := by omega
   have hf : listed.toList[i]? = some false := by
    have : listed.getD i true = listed[i] := by simp [Array.getD, hlt]
    rw [this] at h1
    simp [hlt, h1]
   have := count_set listed.toList i hf
   simp only [Array.toList_setIfInBounds]
   omega
  ·have e : (fun k => (listed.setIfInBounds i true).getD k false = true) = fun k => listed.getD k false = true ∨ k = i := by
    funext k
    apply propext
    have hlt : i < listed.size := by omega
    by_cases hk : k = i
    ·subst hk
     simp [Array.getD, hlt]
    ·have hk' : ¬ i = k := fun h => hk h.symm
     simp only [hk, or_false]
     simp only [Array.getD_eq_getD_getElem?, Array.getElem?_setIfInBounds, hk', if_false]
   rw [e]; exact I'
theorem draw_sim {rec : Rec} (hrec : SimC E.P rec) {fn : FuncId} {rnd : Option Nat} {id : Nat} {ops : Array Oper} : Sim1 E.P rnd (.region id ops true) (step E rec fn rnd (.region id ops true)) := by
 intro tm e tm' s s' h ho ρ m w a o n Q hr hf ht hn hQ
 simp only [step] at h
 cases hk : chookAt E.rhooks fn id (.region id ops true) with
 | some act =>
  rw [hk] at h
  exact chook_ok hk rnd tm e tm' s s' h ho ρ m w a o n Q hr hf ht hn hQ
 | none =>
 rw [hk] at h
 obtain ⟨tm1, s1, h1, h2⟩ := M.bind_ok h
 obtain ⟨he1, rfl⟩ := pure_ok h2
 injection he1 with q1 q2
 subst q1; subst q2
 obtain ⟨_, s2, h3, h4, ho2, _, n2⟩ := M.bind_did h1 ho
 obtain ⟨htx, e2⟩ := ob_ok h3 ho2
 obtain ⟨⟨tm3, fs⟩, s3, h5, h6, ho3, _, _⟩ := M.bind_did h4 ho
 obtain ⟨_, s4, h7, h8⟩ := M.bind_ok h6
 obtain ⟨rfl, rfl⟩ := pure_ok h8
 obtain ⟨hfine, e7⟩ := ob_ok h7 ho
 obtain ⟨F, ev, hp, nx, tv, rfl, t⟩ := evalFeet_tra _ _ _ _ _ _ _ _ h5 ho3
 rw [List.append_nil] at hfine
 have htx' : backB 0 ops.toList = true ∧ fine (befores [] ops.toList) (textFeet ops.toList 0 ops.toList []) = true := by
  have : textFine ops.toList = true := htx
  unfold textFine at this
  simpa using this
 have hr2 := hr.of_same e2
 have hf2 : Fresh ρ s2 s3 := fun i hi => hf i ⟨by have := hi.1; rw [e2.next] at this; exact this, by have := hi.2; rw [e7.next]; exact this⟩
 refine wpIn_region_any E.mixed (any_sim (ρ₀ := ρ) (m := m) (w₀ := w) (a₀ := a) hrec t htx'.1 hfine htx'.2 hf2 (fun a' w' ρ' hp' ht' hd => ?_) ops.size (Array.replicate ops.size false) (by simp) (by simp) a _ ρ s2.heap tm ?_)
 ·have hpost : Post E.P ρ m s w ρ' m s' w' := ⟨hp'.ren, fun i hi => (hp'.new i hi).imp_right fun x => ⟨by have := x.1; rw [e2.next] at this; exact this, by have := x.2; rw [e7.next]; exact this⟩, hp'.mem, hp'.rel.of_same e7, hp'.fr, by
   have := hp'.next; rw [e2.next] at this; rw [e7.next]; exact this⟩
  refine hQ _ _ _ ρ' [] ⟨?_, ?_, .normal, hd, .nil m, fun _ => rfl⟩
  ·rw [Mem.with_nil]; exact hpost
  ·rw [Mem.with_nil]; exact forget_sim ht'
 ·have none : ∀ k, ¬ ((Array.replicate ops.size false).getD k false = true) := fun k => by
   by_cases hk : k < ops.size <;> simp [Array.getD, hk]
  have hl : ∀ {α : Type} (base : Nat → α) (T : Nat → Nat → Prop) (V : Nat → Nat → α) (x : Nat), last base T V (fun k => (Array.replicate ops.size false).getD k false = true) ops.toList.length x = base x := by
   intro α base T V x
   rw [last_agree (i := 0) (Nat.zero_le _) (fun j hj => by omega) (fun k _ _ hs => absurd hs (none k))]
   rfl
  exact ⟨fun x => by rw [hl], rfl, fun x => by rw [hl], fun k _ hs => absurd hs (none k), hr2.drew, ht, .refl ρ, fun _ h => .inl h, .drew w, rfl⟩
end
end Go.Am
set_option linter.unusedSimpArgs false
set_option linter.unusedVariables false
namespace Go.Am
open Go Go.RowKit
variable {E : Env}
theorem step_sim {rec : Rec} (hrec : SimC E.P rec) {fn : FuncId} {rnd : Option Nat} {c : Code} (hc : ∀ b, c ≠ .loop b) : Sim1 E.P rnd c (step E rec fn rnd c) := by
 cases c with
 | skip =>
  intro tm e tm' s s' h ho ρ m w a o n Q hr hf ht hn hQ
  obtain ⟨he, rfl⟩ := pure_ok h
  injection he with q1 q2
  subst q1; subst q2
  exact wpIn_skip (hQ _ _ _ _ _ (.still hr (.refl _) ht .normal))
 | label l =>
  intro tm e tm' s s' h ho ρ m w a o n Q hr hf ht hn hQ
  obtain ⟨he, rfl⟩ := pure_ok h
  injection he with q1 q2
  subst q1; subst q2
  exact wpIn_label (hQ _ _ _ _ _ (.still hr (.refl _) ht .normal))
 | exit id =>
  intro tm e tm' s s' h ho ρ m w a o n Q hr hf ht hn hQ
  obtain ⟨he, rfl⟩ := pure_ok h
  injection he with q1 q2
  subst q1; subst q2
  exact wpIn_exit (hQ _ _ _ _ _ (.still hr (.refl _) ht (.exit id)))
 | ret =>
  intro tm e tm' s s' h ho ρ m w a o n Q hr hf ht hn hQ
  obtain ⟨he, rfl⟩ := pure_ok h
  injection he with q1 q2
  subst q1; subst q2
  exact wpIn_ret (hQ _ _ _ _ _ (.still hr (.refl _) ht .ret))
 | region id ops draw =>
  cases draw with
  | false => exact region_sim hrec
  | true => exact draw_sim hrec
 | seq x y => exact seq_sim hrec
 | cond c x y => exact cond_sim hrec
 | block id c => exact block_sim hrec
 | loop b => exact absurd rfl (hc b)
 | rangeFunc f ps as body => exact rangeFunc_sim hrec
 | scope c => exact scope_sim hrec
 | goto l => intro tm e tm' s s' h; exact (fail_ok h).elim
 | refuse w => intro tm e tm' s s' h; exact (fail_ok h).elim
theorem evalC_sim : ∀ n, SimC E.P (evalC E n) := by
 intro n
 induction n using Nat.strongRecOn with
 | _ n ih =>
  intro fn rnd c
  cases n with
  | zero => intro tm e tm' s s' h; exact (fail_ok h).elim
  | succ n =>
   by_cases hc : ∃ b, c = .loop b
   ·obtain ⟨b, rfl⟩ := hc
    exact loop_sim (F := evalC E) (fun tm e tm' s s' h => fail_ok h) (fun j _ => rfl) (fun j hj => ih j hj fn rnd b)
   ·exact step_sim (ih n (by omega)) (fun b hb => hc ⟨b, hb⟩)
def oldMem (w : World) : Mem := fun b => w.heap[b]?
theorem call_of {f : FuncId} {n : Nat} {args : List AVal} {xs : Array Value} {w : World} {v : AVal} {s s' : St} (h : (callI E (evalC E n) f args).run s = .ok v s') (ho : OkObs s') (hs : ∀ id, s.heap.get id = none) (hx : RL (fun _ => none) (oldMem w) args xs) :
  Calls E.P f xs w fun e w' => ∃ x ρ', e = .returned x ∧ R ρ' (oldMem w) v x ∧ Below w.heap.size w w' := by
 have hr : Rel E.P (fun _ => none) (oldMem w) s.heap.get w := ⟨fun id b hb => absurd hb (by rw [hs id]; simp), fun i j b c r r' hb => absurd hb (by rw [hs i]; simp), fun b o hb => hb⟩
 rcases callI_sim (evalC_sim n) f args s v s' h ho _ _ w xs hr (fun _ _ => rfl) hx with ⟨_, hc⟩ | ⟨x, w', he, _⟩
 ·refine hc.mono (fun e w' hh => ?_)
  obtain ⟨x, rfl, ρ', hp, hx⟩ := hh
  refine ⟨x, ρ', rfl, hx, hp.fr.os, hp.fr.tape, hp.fr.output, hp.fr.size, fun k hk => ?_⟩
  have : (oldMem w) k = some w.heap[k] := by simp [oldMem, hk]
  rw [hp.rel.mem k _ this]
  exact this.symm
 ·exfalso
  unfold callI at h
  split at h
  ·rename_i hb
   have hfok := (E.funcs.find f).ok
   rw [Nat.eq_of_beq_eq_true hb] at hfok
   rw [hfok.call] at he
   injection he with he
   cases he
  ·exact (fail_ok h).elim
end Go.Am
set_option linter.unusedSimpArgs false
set_option linter.unusedVariables false
namespace Go.Am
open Go
structure Use where
 fn : FuncId
 rnd : Option Nat
 c : Code
 tm : List AVal
 s : St
 e : AExit
 tm' : List AVal
 s' : St
def Use.In (u : Use) (rec : Rec) : Prop := (rec u.fn u.rnd u.c u.tm).run u.s = .ok (u.e, u.tm') u.s'
structure Fin1 {α : Type} (X : Rec → M α) : Prop where
 out : ∀ rec s a s', (X rec).run s = .ok a s' → ∃ L : List Use, (∀ u ∈ L, u.In rec) ∧ ∀ rec', (∀ u ∈ L, u.In rec') → (X rec').run s = .ok a s'
theorem Fin1.const {α : Type} (m : M α) : Fin1 (fun _ => m) := ⟨fun _ s a s' h => ⟨[], (fun _ hu => by cases hu), fun _ _ => h⟩⟩
theorem Fin1.use (fn : FuncId) (rnd : Option Nat) (c : Code) (tm : List AVal) : Fin1 (fun rec => rec fn rnd c tm) := ⟨fun rec s a s' h =>
 ⟨[⟨fn, rnd, c, tm, s, a.1, a.2, s'⟩], fun u hu => by simp only [List.mem_singleton] at hu; subst hu; exact h, fun rec' hr => hr _ (List.mem_singleton.2 rfl)⟩⟩
theorem Fin1.bind {α β : Type} {X : Rec → M α} {f : Rec → α → M β} (hX : Fin1 X) (hf : ∀ a, Fin1 (fun rec => f rec a)) : Fin1 (fun rec => (X rec).bind (f rec)) := by
 refine ⟨fun rec s b s2 h => ?_⟩
 obtain ⟨a, s1, h1, h2⟩ := M.bind_ok h
 obtain ⟨L1, q1, r1⟩ := hX.out rec s a s1 h1
 obtain ⟨L2, q2, r2⟩ := (hf a).out rec s1 b s2 h2
 refine ⟨L1 ++ L2, fun u hu => (List.mem_append.1 hu).elim (q1 u) (q2 u), fun rec' hr => ?_⟩
 have e1 := r1 rec' fun u hu => hr u (List.mem_append.2 (.inl hu))
 have e2 := r2 rec' fun u hu => hr u (List.mem_append.2 (.inr hu))
 simp only [M.bind, bindF, e1, e2]
variable {E : Env}
theorem fin_callI (f : FuncId) (args : List AVal) : Fin1 (fun rec => callI E rec f args) := by
 unfold callI
 split
 ·exact Fin1.bind (.use ..) fun r => .const _
 ·exact .const _
theorem fin_hookAt (f : FuncId) (args : List AVal) {k : Rec → M AVal} (hk : Fin1 k) : ∀ l : List (Hook E.P), Fin1 (fun rec => hookAt E l f args (k rec)) := by
 intro l
 induction l with
 | nil => exact hk
 | cons h l ih =>
  simp only [hookAt]
  split
  ·exact .const _
  ·exact ih
theorem fin_callF (f : FuncId) (args : List AVal) : Fin1 (fun rec => callF E rec f args) := fin_hookAt f args (fin_callI f args) E.hooks
theorem fin_loopK {α : Type} {k : Rec → ALoop → M α} (hk : ∀ l, Fin1 (fun rec => k rec l)) (b : Blk) : Fin1 (fun rec => loopK (k rec) b) := by
 unfold loopK
 split
 ·exact hk _
 ·exact .const _
theorem fin_yieldTo (id : Nat) (args : List AVal) : Fin1 (fun rec => yieldTo rec id args) := by
 unfold yieldTo
 refine Fin1.bind (.const _) fun b => fin_loopK (fun l => ?_) b
 split
 ·exact .const _
 ·split
  ·refine Fin1.bind (.use ..) fun r => ?_
   split
   ·refine Fin1.bind (.const _) fun b => fin_loopK (fun l2 => ?_) b
    split
    ·refine Fin1.bind (.const _) fun _ => Fin1.bind (.use ..) fun r2 => ?_
     exact .const _
    ·exact .const _
   ·exact .const _
  ·exact .const _
theorem fin_callV (f : AVal) (args : List AVal) : Fin1 (fun rec => callV E rec f args) := by
 unfold callV
 split
 ·split
  ·exact fin_callF _ _
  ·split
   ·exact fin_yieldTo _ _
   ·exact .const _
  ·exact .const _
 ·exact .const _
theorem fin_doCall (tm : List AVal) (c : Call) : Fin1 (fun rec => doCall E rec tm c) := by
 unfold doCall
 split
 ·exact fin_callV _ _
 ·exact .const _
 ·exact .const _
theorem fin_execOp (tm : List AVal) (o : Op) : Fin1 (fun rec => execOp E rec tm o) := by
 unfold execOp
 split
 all_goals first
  | exact .const _
  | exact fin_doCall _ _
theorem fin_opV (ops : List Oper) (o : Oper) (tm : List AVal) : Fin1 (fun rec => opV E rec ops o tm) := by
 unfold opV
 refine Fin1.bind (.const _) fun w => ?_
 split
 ·exact fin_execOp _ _
 ·exact .const _
theorem fin_evalOps (ops : List Oper) : ∀ (l : List Oper) (tm : List AVal), Fin1 (fun rec => evalOps E rec ops l tm) := by
 intro l
 induction l with
 | nil => intro tm; exact .const _
 | cons o l ih =>
  intro tm
  simp only [evalOps, opAt]
  exact Fin1.bind (Fin1.bind (fin_opV ops o tm) fun v => .const _) fun tm => ih tm
theorem fin_foot {α : Type} (j : Nat) {X : Rec → M α} (hX : Fin1 X) : Fin1 (fun rec => foot j (X rec)) := by
 refine ⟨fun rec s a s' h => ?_⟩
 simp only [foot, footF] at h
 cases hm : (X rec).run { s with rds := [], wrs := [] } with
 | fail w => rw [hm] at h; cases h
 | ask b => rw [hm] at h; cases h
 | ok a1 s1 =>
  rw [hm] at h
  obtain ⟨L, q, r⟩ := hX.out rec _ _ _ hm
  refine ⟨L, q, fun rec' hr => ?_⟩
  simp only [foot, footF, r rec' hr]
  exact h
theorem fin_evalFeet (ops : List Oper) : ∀ (l : List Oper) (j : Nat) (tm : List AVal) (fs : List Foot), Fin1 (fun rec => evalFeet E rec ops j l tm fs) := by
 intro l
 induction l with
 | nil => intro j tm fs; exact .const _
 | cons o l ih =>
  intro j tm fs
  simp only [evalFeet]
  exact Fin1.bind (fin_foot j (fin_opV ops o tm)) fun r => ih _ _ _
theorem fin_step (fn : FuncId) (rnd : Option Nat) (c : Code) (tm : List AVal) : Fin1 (fun rec => step E rec fn rnd c tm) := by
 unfold step
 split
 ·exact .const _
 ·exact .const _
 ·split
  ·exact Fin1.bind (fin_evalOps _ _ _) fun _ => .const _
  ·split
   ·exact .const _
   ·unfold evalDraw
    exact Fin1.bind (Fin1.bind (.const _) fun _ => Fin1.bind (fin_evalFeet _ _ _ _ _) fun _ => .const _) fun _ => .const _
 ·refine Fin1.bind (.use ..) fun r => ?_
  split
  ·exact .use ..
  ·exact .const _
 ·refine Fin1.bind (.const _) fun t => ?_
  split
  ·exact .use ..
  ·exact .use ..
 ·split
  ·exact .const _
  ·refine Fin1.bind (.use ..) fun r => ?_
   exact .const _
 ·refine Fin1.bind (.use ..) fun r => ?_
  split
  ·exact .use ..
  ·exact .const _
 ·split
  ·split
   ·split
    ·exact Fin1.bind (.const _) fun _ => Fin1.bind (.const _) fun id => Fin1.bind (fin_callF _ _) fun _ => .const _
    ·exact .const _
   ·exact .const _
  ·exact .const _
 ·exact .const _
 ·exact .use ..
 ·exact .const _
 ·exact .const _
theorem evalC_more : ∀ n fn rnd c tm s r s', (evalC E n fn rnd c tm).run s = .ok r s' → (evalC E (n + 1) fn rnd c tm).run s = .ok r s' := by
 intro n
 induction n with
 | zero => intro fn rnd c tm s r s' h; cases h
 | succ n ih =>
  intro fn rnd c tm s r s' h
  obtain ⟨L, q, hr⟩ := (fin_step fn rnd c tm).out (evalC E n) s r s' h
  exact hr (evalC E (n + 1)) fun u hu => ih _ _ _ _ _ _ _ (q u hu)
theorem evalC_le {n m : Nat} (hm : n ≤ m) {fn rnd c tm s r s'} (h : (evalC E n fn rnd c tm).run s = .ok r s') : (evalC E m fn rnd c tm).run s = .ok r s' := by
 induction hm with
 | refl => exact h
 | step _ ih => exact evalC_more _ _ _ _ _ _ _ _ ih
open Classical in
noncomputable def wF (E : Env) (fn : FuncId) (rnd : Option Nat) (c : Code) (tm : List AVal) (s : St) : Res (AExit × List AVal) :=
 if h : ∃ n r s', (evalC E n fn rnd c tm).run s = .ok r s' then (evalC E h.choose fn rnd c tm).run s else .fail "no end"
theorem wF_ok {fn rnd c tm s r s'} : wF E fn rnd c tm s = .ok r s' ↔ ∃ n, (evalC E n fn rnd c tm).run s = .ok r s' := by
 unfold wF
 constructor
 ·intro h
  split at h
  ·exact ⟨_, h⟩
  ·cases h
 ·rintro ⟨n, hn⟩
  have hex : ∃ n r s', (evalC E n fn rnd c tm).run s = .ok r s' := ⟨n, r, s', hn⟩
  rw [dif_pos hex]
  obtain ⟨r2, s2, h2⟩ := hex.choose_spec
  have e1 := evalC_le (Nat.le_max_left n hex.choose) hn
  have e2 := evalC_le (Nat.le_max_right n hex.choose) h2
  rw [h2]
  rw [e1] at e2
  exact e2.symm
theorem loc_w {fn rnd c tm} : Loc (wF E fn rnd c tm) := by
 intro s a s' h
 obtain ⟨n, hn⟩ := wF_ok.1 h
 obtain ⟨r, w, o, d⟩ := (evalC E n fn rnd c tm).loc _ _ _ hn
 exact ⟨r, w, o, d.next, d.rds, d.wrs, d.obs, d.rest, d.live, fun t h1 h2 h3 => by
  obtain ⟨t', e, k⟩ := d.again t h1 h2 h3
  exact ⟨t', wF_ok.2 ⟨n, e⟩, k⟩, d.orc, d.rlive⟩
noncomputable def evalW (E : Env) : Rec := fun fn rnd c tm => ⟨wF E fn rnd c tm, loc_w⟩
theorem evalW_ok {fn rnd c tm s r s'} : (evalW E fn rnd c tm).run s = .ok r s' ↔ ∃ n, (evalC E n fn rnd c tm).run s = .ok r s' := wF_ok
theorem uses_fuel : ∀ L : List Use, (∀ u ∈ L, u.In (evalW E)) → ∃ n, ∀ u ∈ L, u.In (evalC E n) := by
 intro L
 induction L with
 | nil => intro _; exact ⟨0, fun _ h => by cases h⟩
 | cons u L ih =>
  intro h
  obtain ⟨n, hn⟩ := ih fun v hv => h v (List.mem_cons.2 (.inr hv))
  obtain ⟨m, hm⟩ := evalW_ok.1 (h u (List.mem_cons.2 (.inl rfl)))
  refine ⟨max n m, fun v hv => ?_⟩
  rcases List.mem_cons.1 hv with rfl | hv
  ·exact evalC_le (Nat.le_max_right n m) hm
  ·exact evalC_le (Nat.le_max_left n m) (hn v hv)
theorem Fin1.fuel {α : Type} {X : Rec → M α} (hX : Fin1 X) {s a s'} (h : (X (evalW E)).run s = .ok a s') : ∃ n, (X (evalC E n)).run s = .ok a s' := by
 obtain ⟨L, q, r⟩ := hX.out _ _ _ _ h
 obtain ⟨n, hn⟩ := uses_fuel L q
 exact ⟨n, r _ hn⟩
theorem evalW_step {fn rnd c tm s r s'} (h : (step E (evalW E) fn rnd c tm).run s = .ok r s') : (evalW E fn rnd c tm).run s = .ok r s' := by
 obtain ⟨n, hn⟩ := (fin_step fn rnd c tm).fuel h
 exact evalW_ok.2 ⟨n + 1, hn⟩
end Go.Am
set_option linter.unusedSimpArgs false
set_option linter.unusedVariables false
namespace Go.Am
open Go
abbrev Hp := Nat → Option Blk
def upd (h : Hp) (i : Nat) (b : Option Blk) : Hp := fun j => if j = i then b else h j
theorem upd_same (h : Hp) (i : Nat) (b : Option Blk) : upd h i b i = b := by simp [upd]
theorem upd_ne (h : Hp) {i j : Nat} (b : Option Blk) (hn : j ≠ i) : upd h i b j = h j := by simp [upd, hn]
theorem upd_upd (h : Hp) (i : Nat) (a b : Option Blk) : upd (upd h i a) i b = upd h i b := by
 funext j; simp only [upd]; split <;> rfl
structure At (s : St) (h : Hp) (n : Nat) : Prop where
 hp : s.heap.get = h
 nx : s.next = n
 oc : s.orc = none
structure Ends {α : Type} (m : M α) (s : St) (a : α) (s' : St) : Prop where
 run : m.run s = .ok a s'
 obs : ∃ o, s'.obs = o ++ s.obs ∧ o.all id = true
 oc : s'.orc = none
def at0 (h : Hp) (n : Nat) : St := { heap := .fn h, next := n, rds := [], wrs := [], obs := [], orc := none }
theorem at0_at (h : Hp) (n : Nat) : At (at0 h n) h n := ⟨rfl, rfl, rfl⟩
def Wp {α : Type} (m : M α) (h : Hp) (n : Nat) (Q : α → Hp → Nat → Prop) : Prop :=
 ∃ s a s', At s h n ∧ Ends m s a s' ∧ Q a s'.heap.get s'.next
theorem wp_at {α : Type} {m : M α} {h : Hp} {n : Nat} {Q : α → Hp → Nat → Prop} (hw : Wp m h n Q) {t : St} (ht : At t h n) : ∃ a t', Ends m t a t' ∧ Q a t'.heap.get t'.next := by
 obtain ⟨s, a, s', hs, he, hq⟩ := hw
 obtain ⟨r, w, o, d⟩ := m.loc _ _ _ he.run
 have hh : t.heap.get = s.heap.get := by rw [ht.hp, hs.hp]
 obtain ⟨t', e, hn, ho, hr, hw, hob, hg, hk⟩ := d.again t (by rw [ht.nx, hs.nx]) (by rw [ht.oc, hs.oc]) (fun id _ => by rw [hh])
 have hget : t'.heap.get = s'.heap.get := by
  funext id
  by_cases hc : id ∈ w ∨ New s s' id
  ·exact hg id hc
  ·simp only [not_or] at hc
   rw [hk id hc.1 hc.2, hh, d.rest id hc.1 hc.2]
 refine ⟨a, t', ⟨e, ⟨o, hob, ?_⟩, by rw [ho, he.oc]⟩, by rw [hget, hn]; exact hq⟩
 obtain ⟨o2, h1, h2⟩ := he.obs
 rw [d.obs] at h1
 rw [List.append_cancel_right h1]
 exact h2
theorem wp_iff {α : Type} {m : M α} {h : Hp} {n : Nat} {Q : α → Hp → Nat → Prop} : Wp m h n Q ↔ ∃ a s', Ends m (at0 h n) a s' ∧ Q a s'.heap.get s'.next :=
 ⟨fun hw => wp_at hw (at0_at h n), fun ⟨a, s', he, hq⟩ => ⟨_, a, s', at0_at h n, he, hq⟩⟩
theorem Ends.trans {α β : Type} {m : M α} {f : α → M β} {s s1 s2 : St} {a : α} {b : β} (h1 : Ends m s a s1) (h2 : Ends (f a) s1 b s2) : Ends (m.bind f) s b s2 := by
 refine ⟨by simp only [M.bind, bindF, h1.run, h2.run], ?_, h2.oc⟩
 obtain ⟨o1, e1, q1⟩ := h1.obs
 obtain ⟨o2, e2, q2⟩ := h2.obs
 exact ⟨o2 ++ o1, by rw [e2, e1, List.append_assoc], by rw [List.all_append, q1, q2]; rfl⟩
theorem M.ext' {α : Type} {m m' : M α} (h : ∀ s, m.run s = m'.run s) : m = m' := by
 cases m with | mk r l => cases m' with | mk r' l' =>
  have : r = r' := funext h
  subst this; rfl
theorem bind_pure {α β : Type} (a : α) (f : α → M β) : (M.pure a).bind f = f a := M.ext' fun s => rfl
theorem bind_fail {α β : Type} (w : String) (f : α → M β) : (fail w : M α).bind f = fail w := M.ext' fun s => rfl
theorem bind_assoc {α β γ : Type} (m : M α) (f : α → M β) (g : β → M γ) : (m.bind f).bind g = m.bind fun a => (f a).bind g := M.ext' fun s => by
 simp only [M.bind, bindF]
 cases m.run s <;> rfl
theorem wp_mono {α : Type} {m : M α} {h : Hp} {n : Nat} {Q Q' : α → Hp → Nat → Prop} (hw : Wp m h n Q) (hq : ∀ a h' n', Q a h' n' → Q' a h' n') : Wp m h n Q' := by
 obtain ⟨s, a, s', hs, he, hh⟩ := hw
 exact ⟨s, a, s', hs, he, hq _ _ _ hh⟩
theorem wp_bind {α β : Type} {m : M α} {f : α → M β} {h : Hp} {n : Nat} {Q : β → Hp → Nat → Prop} (hw : Wp m h n (fun a h' n' => Wp (f a) h' n' Q)) : Wp (m.bind f) h n Q := by
 obtain ⟨s, a, s1, hs, he, hq⟩ := hw
 obtain ⟨b, s2, he2, hq2⟩ := wp_at hq ⟨rfl, rfl, he.oc⟩
 exact ⟨s, b, s2, hs, he.trans he2, hq2⟩
theorem wp_pure {α : Type} {a : α} {h : Hp} {n : Nat} {Q : α → Hp → Nat → Prop} : Wp (M.pure a) h n Q ↔ Q a h n := by
 rw [wp_iff]
 constructor
 ·rintro ⟨a', s', he, hq⟩
  have h0 := he.run
  simp only [M.pure] at h0
  injection h0 with h1 h2
  subst h1; subst h2
  exact hq
 ·intro hq
  exact ⟨a, at0 h n, ⟨rfl, ⟨[], rfl, rfl⟩, rfl⟩, hq⟩
theorem wp_fail {α : Type} {w : String} {h : Hp} {n : Nat} {Q : α → Hp → Nat → Prop} : Wp (fail w) h n Q ↔ False := by
 rw [wp_iff]
 refine ⟨?_, False.elim⟩
 rintro ⟨a', s', he, hq⟩
 cases he.run
theorem Ends.obs_split {α β : Type} {m : M α} {f : α → M β} {s s1 s2 : St} {a : α} {b : β} (h1 : m.run s = .ok a s1) (h2 : (f a).run s1 = .ok b s2) (h : ∃ o, s2.obs = o ++ s.obs ∧ o.all id = true) :
  (∃ o, s1.obs = o ++ s.obs ∧ o.all id = true) ∧ ∃ o, s2.obs = o ++ s1.obs ∧ o.all id = true := by
 obtain ⟨_, _, o1, d1⟩ := m.loc _ _ _ h1
 obtain ⟨_, _, o2, d2⟩ := (f a).loc _ _ _ h2
 obtain ⟨o, e, q⟩ := h
 have : o = o2 ++ o1 := by
  have e2 := d2.obs
  rw [d1.obs, ← List.append_assoc, e] at e2
  exact List.append_cancel_right e2
 subst this
 rw [List.all_append, Bool.and_eq_true] at q
 exact ⟨⟨o1, d1.obs, q.2⟩, ⟨o2, d2.obs, q.1⟩⟩
theorem wp_head {α β : Type} {m : M α} {f : α → M β} {h h1 : Hp} {n n1 : Nat} {Q : β → Hp → Nat → Prop} {a : α} {s1 : St} (hr : m.run (at0 h n) = .ok a s1) (h1e : s1.heap.get = h1) (hn1 : s1.next = n1) (ho : s1.orc = none) :
  Wp (m.bind f) h n Q ↔ s1.obs.all id = true ∧ Wp (f a) h1 n1 Q := by
 constructor
 ·intro hw
  obtain ⟨b, s2, he, hq⟩ := wp_iff.1 hw
  obtain ⟨a', s1', e1, e2⟩ := M.bind_ok he.run
  rw [hr] at e1
  injection e1 with q1 q2
  subst q1; subst q2
  obtain ⟨⟨o, k1, k2⟩, hob2⟩ := Ends.obs_split hr e2 he.obs
  refine ⟨?_, s1, b, s2, ⟨h1e, hn1, ho⟩, ⟨e2, hob2, he.oc⟩, hq⟩
  rw [k1]
  simpa [at0] using k2
 ·rintro ⟨hob, hw⟩
  obtain ⟨b, s2, he, hq⟩ := wp_at hw ⟨h1e, hn1, ho⟩
  exact ⟨at0 h n, b, s2, at0_at h n, (Ends.trans (m := m) (f := f) ⟨hr, ⟨s1.obs, by simp [at0], hob⟩, ho⟩ he), hq⟩
theorem wp_bind_iff {α β : Type} {m : M α} {f : α → M β} {h : Hp} {n : Nat} {Q : β → Hp → Nat → Prop} : Wp (m.bind f) h n Q ↔ Wp m h n fun a h' n' => Wp (f a) h' n' Q := by
 refine ⟨fun hw => ?_, wp_bind⟩
 obtain ⟨b, s2, he, hq⟩ := wp_iff.1 hw
 obtain ⟨a, s1, e1, e2⟩ := M.bind_ok he.run
 obtain ⟨hob1, hob2⟩ := Ends.obs_split e1 e2 he.obs
 obtain ⟨_, _, _, d⟩ := m.loc _ _ _ e1
 have ho := d.orc rfl
 exact ⟨_, a, s1, at0_at h n, ⟨e1, hob1, ho⟩, s1, b, s2, ⟨rfl, rfl, ho⟩, ⟨e2, hob2, he.oc⟩, hq⟩
theorem wp_get {α : Type} {id : Nat} {f : Blk → M α} {h : Hp} {n : Nat} {Q : α → Hp → Nat → Prop} : Wp ((getB id).bind f) h n Q ↔ ∃ b, h id = some b ∧ Wp (f b) h n Q := by
 cases hg : h id with
 | none =>
  refine ⟨fun hw => ?_, fun ⟨b, e, _⟩ => by cases e⟩
  obtain ⟨b, s2, he, hq⟩ := wp_iff.1 hw
  obtain ⟨a', s1', e1, e2⟩ := M.bind_ok he.run
  simp only [getB, getF, at0, Tr.get, hg] at e1
  cases e1
 | some b =>
  have hr : (getB id).run (at0 h n) = .ok b { at0 h n with rds := id :: (at0 h n).rds } := by simp only [getB, getF, at0, Tr.get, hg]
  rw [wp_head hr rfl rfl rfl]
  constructor
  ·intro ⟨_, hw⟩; exact ⟨b, rfl, hw⟩
  ·rintro ⟨b', e, hw⟩
   injection e with e
   subst e
   exact ⟨rfl, hw⟩
theorem wp_setF {α : Type} {id : Nat} {b : Option Blk} {f : Unit → M α} {h : Hp} {n : Nat} {Q : α → Hp → Nat → Prop} : Wp ((⟨setF id b, loc_set id b⟩ : M Unit).bind f) h n Q ↔ h id ≠ none ∧ Wp (f ()) (upd h id b) n Q := by
 cases hg : h id with
 | none =>
  refine ⟨fun hw => ?_, fun ⟨e, _⟩ => absurd rfl e⟩
  obtain ⟨c, s2, he, hq⟩ := wp_iff.1 hw
  obtain ⟨a', s1', e1, e2⟩ := M.bind_ok he.run
  simp only [setF, at0, Tr.get, hg] at e1
  cases e1
 | some b0 =>
  have hr : (⟨setF id b, loc_set id b⟩ : M Unit).run (at0 h n) = .ok () { at0 h n with heap := (at0 h n).heap.put id b, wrs := id :: (at0 h n).wrs } := by simp only [setF, at0, Tr.get, hg]
  rw [wp_head hr (h1 := upd h id b) (n1 := n) (funext fun j => by rw [Tr.get_put]; rfl) rfl rfl]
  constructor
  ·intro ⟨_, hw⟩; exact ⟨by simp, hw⟩
  ·rintro ⟨_, hw⟩
   exact ⟨rfl, hw⟩
theorem wp_set {α : Type} {id : Nat} {b : Blk} {f : Unit → M α} {h : Hp} {n : Nat} {Q : α → Hp → Nat → Prop} : Wp ((setB id b).bind f) h n Q ↔ h id ≠ none ∧ Wp (f ()) (upd h id (some b)) n Q := wp_setF
theorem wp_kill {α : Type} {id : Nat} {f : Unit → M α} {h : Hp} {n : Nat} {Q : α → Hp → Nat → Prop} : Wp ((kill id).bind f) h n Q ↔ h id ≠ none ∧ Wp (f ()) (upd h id none) n Q := wp_setF
theorem wp_new {α : Type} {b : Blk} {f : Nat → M α} {h : Hp} {n : Nat} {Q : α → Hp → Nat → Prop} : Wp ((newB b).bind f) h n Q ↔ Wp (f n) (upd h n (some b)) (n + 1) Q := by
 have hr : (newB b).run (at0 h n) = .ok n { at0 h n with heap := (at0 h n).heap.put n (some b), next := n + 1 } := rfl
 rw [wp_head hr (h1 := upd h n (some b)) (n1 := n + 1) (funext fun j => by rw [Tr.get_put]; rfl) rfl rfl]
 exact ⟨fun h => h.2, fun h => ⟨rfl, h⟩⟩
theorem wp_ob {α : Type} {b : Bool} {f : Unit → M α} {h : Hp} {n : Nat} {Q : α → Hp → Nat → Prop} : Wp ((ob b).bind f) h n Q ↔ b = true ∧ Wp (f ()) h n Q := by
 cases b with
 | true =>
  have hr : (ob true).run (at0 h n) = .ok () (at0 h n) := rfl
  rw [wp_head hr (h1 := h) (n1 := n) rfl rfl rfl]
  simp [at0]
 | false =>
  have hr : (ob false).run (at0 h n) = .ok () { at0 h n with obs := false :: (at0 h n).obs } := rfl
  rw [wp_head hr (h1 := h) (n1 := n) rfl rfl rfl]
  simp [at0]
theorem wp_ask {α : Type} {b : Bool} {f : Bool → M α} {h : Hp} {n : Nat} {Q : α → Hp → Nat → Prop} : Wp ((ask b).bind f) h n Q ↔ Wp (f b) h n Q := by
 have hr : (ask b).run (at0 h n) = .ok b (at0 h n) := rfl
 rw [wp_head hr (h1 := h) (n1 := n) rfl rfl rfl]
 exact ⟨fun h => h.2, fun h => ⟨rfl, h⟩⟩
theorem bind_unit {α : Type} (m : M α) : m.bind M.pure = m := M.ext' fun s => by
 simp only [M.bind, bindF, M.pure]
 cases m.run s <;> rfl
theorem wp_new' {b : Blk} {h : Hp} {n : Nat} {Q : Nat → Hp → Nat → Prop} : Wp (newB b) h n Q ↔ Q n (upd h n (some b)) (n + 1) := by
 rw [← bind_unit (newB b), wp_new]; simp only [wp_pure]
theorem wp_ob' {b : Bool} {h : Hp} {n : Nat} {Q : Unit → Hp → Nat → Prop} : Wp (ob b) h n Q ↔ b = true ∧ Q () h n := by
 rw [← bind_unit (ob b), wp_ob]; simp only [wp_pure]
theorem wp_ask' {b : Bool} {h : Hp} {n : Nat} {Q : Bool → Hp → Nat → Prop} : Wp (ask b) h n Q ↔ Q b h n := by
 rw [← bind_unit (ask b), wp_ask]; simp only [wp_pure]
theorem wp_same {α : Type} {m : M α} {h h1 : Hp} {n n1 : Nat} {a : α} (hw : Wp m h n fun a' h' n' => a' = a ∧ h' = h1 ∧ n' = n1) {Q : α → Hp → Nat → Prop} (hq : Q a h1 n1) : Wp m h n Q :=
 wp_mono hw fun _ _ _ ⟨e1, e2, e3⟩ => by subst e1; subst e2; subst e3; exact hq
theorem Wp.next {α : Type} {m : M α} {h : Hp} {n : Nat} {Q : α → Hp → Nat → Prop} (hw : Wp m h n Q) : Wp m h n fun a h' n' => Q a h' n' ∧ n ≤ n' := by
 obtain ⟨s, a, s', hs, he, hq⟩ := hw
 obtain ⟨_, _, _, d⟩ := m.loc _ _ _ he.run
 exact ⟨s, a, s', hs, he, hq, by rw [← hs.nx]; exact d.next⟩
end Go.Am
set_option linter.unusedSimpArgs false
set_option linter.unusedVariables false
namespace Go.Am
open Go Go.RowKit
inductive Kf where
 | seq (c : Code)
 | block (id : Nat)
 | loop (c : Code)
abbrev Post0 := AExit → List AVal → Hp → Nat → Prop
variable {E : Env}
def Kont (E : Env) (fn : FuncId) (rnd : Option Nat) (Q : Post0) : List Kf → AExit → List AVal → Hp → Nat → Prop
 | [], e, tm, h, n => Q e tm h n
 | .seq c :: ks, e, tm, h, n => match e with
  | .normal => Wp (evalW E fn rnd c tm) h n fun r h' n' => Kont E fn rnd Q ks r.1 r.2 h' n'
  | e => Kont E fn rnd Q ks e tm h n
 | .block id :: ks, e, tm, h, n => match e with
  | .exit j => match j.beq id with
   | true => Kont E fn rnd Q ks .normal tm h n
   | false => Kont E fn rnd Q ks (.exit j) tm h n
  | e => Kont E fn rnd Q ks e tm h n
 | .loop c :: ks, e, tm, h, n => match e with
  | .normal => Wp (evalW E fn rnd (.loop c) tm) h n fun r h' n' => Kont E fn rnd Q ks r.1 r.2 h' n'
  | e => Kont E fn rnd Q ks e tm h n
def Run (E : Env) (fn : FuncId) (rnd : Option Nat) (Q : Post0) (c : Code) (ks : List Kf) (tm : List AVal) (h : Hp) (n : Nat) : Prop :=
 Wp (evalW E fn rnd c tm) h n fun r h' n' => Kont E fn rnd Q ks r.1 r.2 h' n'
def Ops (E : Env) (fn : FuncId) (rnd : Option Nat) (Q : Post0) (ks : List Kf) (ops rest : List Oper) (tm : List AVal) (h : Hp) (n : Nat) : Prop :=
 Wp (evalOps E (evalW E) ops rest tm) h n fun tm h' n' => Kont E fn rnd Q ks .normal (forget E fn tm) h' n'
def OpV (E : Env) (fn : FuncId) (rnd : Option Nat) (Q : Post0) (ks : List Kf) (ops rest : List Oper) (d : Option Tmp) (tm : List AVal) (m : M AVal) (h : Hp) (n : Nat) : Prop :=
 Wp m h n fun v h' n' => Ops E fn rnd Q ks ops rest (putT tm d v) h' n'
def OpG (E : Env) (fn : FuncId) (rnd : Option Nat) (Q : Post0) (ks : List Kf) (ops rest : List Oper) (d : Option Tmp) (tm : List AVal) (o : Op) (want : Bool) (v : AVal) (h : Hp) (n : Nat) : Prop :=
 Wp (wantB want v) h n fun w h' n' => match w with
  | true => OpV E fn rnd Q ks ops rest d tm (execOp E (evalW E) tm o) h' n'
  | false => Ops E fn rnd Q ks ops rest (putT tm d undef) h' n'
def If (E : Env) (fn : FuncId) (rnd : Option Nat) (Q : Post0) (v : AVal) (a b : Code) (ks : List Kf) (tm : List AVal) (h : Hp) (n : Nat) : Prop :=
 Wp (branch v) h n fun t h' n' => match t with
  | true => Run E fn rnd Q a ks tm h' n'
  | false => Run E fn rnd Q b ks tm h' n'
variable {fn : FuncId} {rnd : Option Nat} {Q : Post0} {ks : List Kf} {tm : List AVal} {h : Hp} {n : Nat}
theorem evalW_iff {c : Code} {s : St} {r : AExit × List AVal} {s' : St} : (evalW E fn rnd c tm).run s = .ok r s' ↔ (step E (evalW E) fn rnd c tm).run s = .ok r s' := by
 refine ⟨fun hw => ?_, evalW_step⟩
 obtain ⟨k, hk⟩ := evalW_ok.1 hw
 cases k with
 | zero => cases hk
 | succ k =>
  obtain ⟨L, q, hr⟩ := (fin_step fn rnd c tm).out (evalC E k) s r s' hk
  exact hr (evalW E) fun u hu => evalW_ok.2 ⟨k, q u hu⟩
theorem wp_step {c : Code} {Q : AExit × List AVal → Hp → Nat → Prop} : Wp (evalW E fn rnd c tm) h n Q ↔ Wp (step E (evalW E) fn rnd c tm) h n Q := by
 constructor
 ·rintro ⟨s, a, s', h1, h2, h3⟩
  exact ⟨s, a, s', h1, ⟨evalW_iff.1 h2.run, h2.obs, h2.oc⟩, h3⟩
 ·rintro ⟨s, a, s', h1, h2, h3⟩
  exact ⟨s, a, s', h1, ⟨evalW_iff.2 h2.run, h2.obs, h2.oc⟩, h3⟩
theorem wp_imp {α : Type} {m : M α} {Q Q' : α → Hp → Nat → Prop} (hq : ∀ a h' n', Q a h' n' ↔ Q' a h' n') : Wp m h n Q ↔ Wp m h n Q' :=
 ⟨fun hw => wp_mono hw fun a h' n' => (hq a h' n').1, fun hw => wp_mono hw fun a h' n' => (hq a h' n').2⟩
theorem run_skip : Run E fn rnd Q .skip ks tm h n ↔ Kont E fn rnd Q ks .normal tm h n := by
 unfold Run; rw [wp_step]; simp only [step, wp_pure]
theorem run_label {l : Nat} : Run E fn rnd Q (.label l) ks tm h n ↔ Kont E fn rnd Q ks .normal tm h n := by
 unfold Run; rw [wp_step]; simp only [step, wp_pure]
theorem run_exit {l : Nat} : Run E fn rnd Q (.exit l) ks tm h n ↔ Kont E fn rnd Q ks (.exit l) tm h n := by
 unfold Run; rw [wp_step]; simp only [step, wp_pure]
theorem run_ret : Run E fn rnd Q .ret ks tm h n ↔ Kont E fn rnd Q ks .ret tm h n := by
 unfold Run; rw [wp_step]; simp only [step, wp_pure]
theorem run_seq {a b : Code} : Run E fn rnd Q (.seq a b) ks tm h n ↔ Run E fn rnd Q a (.seq b :: ks) tm h n := by
 unfold Run; rw [wp_step]; simp only [step, wp_bind_iff]
 refine wp_imp fun r h' n' => ?_
 obtain ⟨e, tm'⟩ := r
 cases e <;> simp only [Kont, wp_pure]
theorem run_scope {a : Code} : Run E fn rnd Q (.scope a) ks tm h n ↔ Run E fn rnd Q a ks tm h n := by
 unfold Run; rw [wp_step]; simp only [step]
theorem run_block {id : Nat} {a : Code} (hn : noHook E.bhooks fn id = true) : Run E fn rnd Q (.block id a) ks tm h n ↔ Run E fn rnd Q a (.block id :: ks) tm h n := by
 unfold Run; rw [wp_step]; simp only [step, chook_none hn, wp_bind_iff]
 refine wp_imp fun r h' n' => ?_
 obtain ⟨e, tm'⟩ := r
 cases e with
 | normal => simp only [Kont, wp_pure]
 | ret => simp only [Kont, wp_pure]
 | exit j => simp only [Kont]; cases j.beq id <;> simp only [wp_pure]
theorem run_loop {a : Code} : Run E fn rnd Q (.loop a) ks tm h n ↔ Run E fn rnd Q a (.loop a :: ks) tm h n := by
 unfold Run; rw [wp_step]; simp only [step, wp_bind_iff]
 refine wp_imp fun r h' n' => ?_
 obtain ⟨e, tm'⟩ := r
 cases e <;> simp only [Kont, wp_pure]
theorem run_cond {c : Operand} {a b : Code} : Run E fn rnd Q (.cond c a b) ks tm h n ↔ If E fn rnd Q (opd tm c) a b ks tm h n := by
 unfold Run If; rw [wp_step]; simp only [step, wp_bind_iff]
 refine wp_imp fun t h' n' => ?_
 cases t <;> rfl
theorem run_region {id : Nat} {ops : Array Oper} : Run E fn rnd Q (.region id ops false) ks tm h n ↔ Ops E fn rnd Q ks ops.toList ops.toList tm h n := by
 unfold Run Ops; rw [wp_step]; simp only [step, wp_bind_iff, wp_pure]
theorem if_true {a b : Code} : If E fn rnd Q (.bool true) a b ks tm h n ↔ Run E fn rnd Q a ks tm h n := by
 simp only [If, branch, wp_ask']
theorem if_false {a b : Code} : If E fn rnd Q (.bool false) a b ks tm h n ↔ Run E fn rnd Q b ks tm h n := by
 simp only [If, branch, wp_ask']
theorem if_btrue {a b : Code} : If E fn rnd Q (.blit true) a b ks tm h n ↔ Run E fn rnd Q a ks tm h n := by
 simp only [If, branch, wp_pure]
theorem if_bfalse {a b : Code} : If E fn rnd Q (.blit false) a b ks tm h n ↔ Run E fn rnd Q b ks tm h n := by
 simp only [If, branch, wp_pure]
theorem cont_seq {c : Code} : Kont E fn rnd Q (.seq c :: ks) .normal tm h n ↔ Run E fn rnd Q c ks tm h n := Iff.rfl
theorem cont_seq_ret {c : Code} : Kont E fn rnd Q (.seq c :: ks) .ret tm h n ↔ Kont E fn rnd Q ks .ret tm h n := Iff.rfl
theorem cont_seq_exit {c : Code} {j : Nat} : Kont E fn rnd Q (.seq c :: ks) (.exit j) tm h n ↔ Kont E fn rnd Q ks (.exit j) tm h n := Iff.rfl
theorem cont_block {i : Nat} : Kont E fn rnd Q (.block i :: ks) .normal tm h n ↔ Kont E fn rnd Q ks .normal tm h n := Iff.rfl
theorem cont_block_ret {i : Nat} : Kont E fn rnd Q (.block i :: ks) .ret tm h n ↔ Kont E fn rnd Q ks .ret tm h n := Iff.rfl
theorem cont_block_same {i : Nat} : Kont E fn rnd Q (.block i :: ks) (.exit i) tm h n ↔ Kont E fn rnd Q ks .normal tm h n := by
 simp only [Kont, Nat.beq_refl]
theorem cont_loop {c : Code} : Kont E fn rnd Q (.loop c :: ks) .normal tm h n ↔ Run E fn rnd Q (.loop c) ks tm h n := Iff.rfl
theorem cont_loop_ret {c : Code} : Kont E fn rnd Q (.loop c :: ks) .ret tm h n ↔ Kont E fn rnd Q ks .ret tm h n := Iff.rfl
theorem cont_loop_exit {c : Code} {j : Nat} : Kont E fn rnd Q (.loop c :: ks) (.exit j) tm h n ↔ Kont E fn rnd Q ks (.exit j) tm h n := Iff.rfl
theorem cont_nil {e : AExit} : Kont E fn rnd Q [] e tm h n ↔ Q e tm h n := Iff.rfl
variable {ops rest : List Oper} {d : Option Tmp}
theorem ops_nil : Ops E fn rnd Q ks ops [] tm h n ↔ Kont E fn rnd Q ks .normal (forget E fn tm) h n := by
 unfold Ops; simp only [evalOps, wp_pure]
theorem ops_cons {op : Op} {ty : TypeId} {pos : String} {af : Array Edge} : Ops E fn rnd Q ks ops (⟨d, op, ty, pos, af, none⟩ :: rest) tm h n ↔ OpV E fn rnd Q ks ops rest d tm (execOp E (evalW E) tm op) h n := by
 unfold Ops OpV; simp only [evalOps, opAt, opV, wanted, bind_pure, wp_bind_iff, wp_pure]; rfl
def OpGo (E : Env) (fn : FuncId) (rnd : Option Nat) (Q : Post0) (ks : List Kf) (ops rest : List Oper) (d : Option Tmp) (tm : List AVal) (o : Op) (want : Bool) (g : Option Oper) (h : Hp) (n : Nat) : Prop :=
 match g.bind (·.dst) with
 | some g => OpG E fn rnd Q ks ops rest d tm o want (nth tm g undef) h n
 | none => Ops E fn rnd Q ks ops rest (putT tm d undef) h n
theorem ops_guard {op : Op} {ty : TypeId} {pos : String} {af : Array Edge} {j : Nat} {want : Bool} :
  Ops E fn rnd Q ks ops (⟨d, op, ty, pos, af, some (j, want)⟩ :: rest) tm h n ↔ OpGo E fn rnd Q ks ops rest d tm op want ops[j]? h n := by
 unfold OpGo
 cases hg : (ops[j]?).bind (·.dst) with
 | none =>
  unfold Ops; simp only [evalOps, opAt, opV, wanted, hg, wp_bind_iff, wp_pure]
 | some g =>
  unfold Ops OpG; simp only [evalOps, opAt, opV, wanted, hg, wp_bind_iff, wp_pure]
  refine wp_imp fun w h' n' => ?_
  cases w <;> simp only [wp_pure, Ops, OpV]
theorem opgo_some {op : Op} {want : Bool} {g : Tmp} {o2 : Op} {ty : TypeId} {pos : String} {af : Array Edge} {gg : Option (Nat × Bool)} :
  OpGo E fn rnd Q ks ops rest d tm op want (some ⟨some g, o2, ty, pos, af, gg⟩) h n ↔ OpG E fn rnd Q ks ops rest d tm op want (nth tm g undef) h n := Iff.rfl
theorem opg_bool {op : Op} {want t : Bool} : OpG E fn rnd Q ks ops rest d tm op want (.bool t) h n ↔ OpG E fn rnd Q ks ops rest d tm op want (.blit t) h n := by
 simp only [OpG, wantB, wp_ask, wp_pure]
theorem opg_tt {op : Op} : OpG E fn rnd Q ks ops rest d tm op true (.blit true) h n ↔ OpV E fn rnd Q ks ops rest d tm (execOp E (evalW E) tm op) h n := by
 simp only [OpG, wantB, wp_pure]; rfl
theorem opg_ff {op : Op} : OpG E fn rnd Q ks ops rest d tm op false (.blit false) h n ↔ OpV E fn rnd Q ks ops rest d tm (execOp E (evalW E) tm op) h n := by
 simp only [OpG, wantB, wp_pure]; rfl
theorem opg_tf {op : Op} : OpG E fn rnd Q ks ops rest d tm op true (.blit false) h n ↔ Ops E fn rnd Q ks ops rest (putT tm d undef) h n := by
 simp only [OpG, wantB, wp_pure]; rfl
theorem opg_ft {op : Op} : OpG E fn rnd Q ks ops rest d tm op false (.blit true) h n ↔ Ops E fn rnd Q ks ops rest (putT tm d undef) h n := by
 simp only [OpG, wantB, wp_pure]; rfl
theorem opg_undef {op : Op} {want : Bool} {l : List AVal} : OpG E fn rnd Q ks ops rest d tm op want (.tup l) h n ↔ Ops E fn rnd Q ks ops rest (putT tm d undef) h n := by
 simp only [OpG, wantB, wp_pure]
theorem opv_pure {v : AVal} : OpV E fn rnd Q ks ops rest d tm (M.pure v) h n ↔ Ops E fn rnd Q ks ops rest (putT tm d v) h n := by
 simp only [OpV, wp_pure]
theorem opv_fail {w : String} : OpV E fn rnd Q ks ops rest d tm (fail w) h n ↔ False := by
 simp only [OpV, wp_fail]
theorem opv_get {id : Nat} {f : Blk → M AVal} : OpV E fn rnd Q ks ops rest d tm ((getB id).bind f) h n ↔ ∃ b, h id = some b ∧ OpV E fn rnd Q ks ops rest d tm (f b) h n := by
 simp only [OpV, wp_get]
theorem opv_set {id : Nat} {b : Blk} {f : Unit → M AVal} : OpV E fn rnd Q ks ops rest d tm ((setB id b).bind f) h n ↔ h id ≠ none ∧ OpV E fn rnd Q ks ops rest d tm (f ()) (upd h id (some b)) n := by
 simp only [OpV, wp_set]
theorem opv_kill {id : Nat} {f : Unit → M AVal} : OpV E fn rnd Q ks ops rest d tm ((kill id).bind f) h n ↔ h id ≠ none ∧ OpV E fn rnd Q ks ops rest d tm (f ()) (upd h id none) n := by
 simp only [OpV, wp_kill]
theorem opv_new {b : Blk} {f : Nat → M AVal} : OpV E fn rnd Q ks ops rest d tm ((newB b).bind f) h n ↔ OpV E fn rnd Q ks ops rest d tm (f n) (upd h n (some b)) (n + 1) := by
 simp only [OpV, wp_new]
theorem opv_ob {b : Bool} {f : Unit → M AVal} : OpV E fn rnd Q ks ops rest d tm ((ob b).bind f) h n ↔ b = true ∧ OpV E fn rnd Q ks ops rest d tm (f ()) h n := by
 simp only [OpV, wp_ob]
theorem opv_ask {b : Bool} {f : Bool → M AVal} : OpV E fn rnd Q ks ops rest d tm ((ask b).bind f) h n ↔ OpV E fn rnd Q ks ops rest d tm (f b) h n := by
 simp only [OpV, wp_ask]
theorem opv_call {m : M AVal} {Q1 : AVal → Hp → Nat → Prop} (hw : Wp m h n Q1) (hq : ∀ v h' n', n ≤ n' → Q1 v h' n' → Ops E fn rnd Q ks ops rest (putT tm d v) h' n') : OpV E fn rnd Q ks ops rest d tm m h n :=
 wp_mono hw.next fun a h' n' hh => hq a h' n' hh.2 hh.1
theorem opv_same {m : M AVal} {v : AVal} {h1 : Hp} {n1 : Nat} (hw : Wp m h n fun v' h' n' => v' = v ∧ h' = h1 ∧ n' = n1) (hq : Ops E fn rnd Q ks ops rest (putT tm d v) h1 n1) : OpV E fn rnd Q ks ops rest d tm m h n :=
 wp_same hw hq
theorem wp_callI {f : FuncId} {args : List AVal} {i : FI} {Q : AVal → Hp → Nat → Prop} (hf : (E.funcs.find f).f.beq f = true) (hi : (E.funcs.find f).i = i)
  (hr : Run E f none (fun e tm h' n' => (match e with | .exit _ => False | _ => True) ∧ Wp (ended E tm i.results) h' n' Q) i.body [] (args ++ List.replicate (i.ntmps - args.length) undef) h n) :
  Wp (callI E (evalW E) f args) h n Q := by
 unfold callI
 rw [hf]
 simp only [hi, wp_bind_iff]
 refine wp_mono hr fun r h' n' hq => ?_
 obtain ⟨e, tm'⟩ := r
 simp only [Kont] at hq
 cases e with
 | exit j => exact hq.1.elim
 | normal => exact hq.2
 | ret => exact hq.2
theorem calls_of {f : FuncId} {args : List AVal} {xs : Array Value} {w : World} {Q : AVal → Hp → Nat → Prop} (hw : Wp (callI E (evalW E) f args) (fun _ => none) 0 Q) (hx : RL (fun _ => none) (oldMem w) args xs) :
  Calls E.P f xs w fun e w' => ∃ v h n x ρ', Q v h n ∧ e = .returned x ∧ R ρ' (oldMem w) v x ∧ Below w.heap.size w w' := by
 obtain ⟨v, s', he, hq⟩ := wp_iff.1 hw
 obtain ⟨k, hk⟩ := (fin_callI f args).fuel he.run
 have ho : OkObs s' := by
  obtain ⟨o, e1, e2⟩ := he.obs
  unfold OkObs
  rw [e1]
  simpa [at0] using e2
 refine (call_of hk ho (fun _ => rfl) hx).mono fun e w' hh => ?_
 obtain ⟨x, ρ', h1, h2, h3⟩ := hh
 exact ⟨v, _, _, x, ρ', hq, h1, h2, h3⟩
end Go.Am
set_option linter.unusedSimpArgs false
set_option linter.unusedVariables false
set_option linter.defProp false
namespace Go.Am
open Go
variable {E : Env} {fn : FuncId} {rnd : Option Nat} {Q : Post0} {ks : List Kf} {tm : List AVal} {h : Hp} {n : Nat} {ops rest : List Oper} {d : Option Tmp}
theorem opv_det {m : M AVal} {h1 : Hp} {n1 : Nat} {v : AVal} (hw : Wp m h n fun v' h' n' => v' = v ∧ h' = h1 ∧ n' = n1) :
  ∀ (E : Env) (fn : FuncId) (rnd : Option Nat) (Q : Post0) (ks : List Kf) (ops rest : List Oper) (d : Option Tmp) (tm : List AVal), OpV E fn rnd Q ks ops rest d tm m h n ↔ Ops E fn rnd Q ks ops rest (putT tm d v) h1 n1 := by
 intro E fn rnd Q ks ops rest d tm
 refine ⟨fun hq => ?_, fun hq => opv_same hw hq⟩
 obtain ⟨a, s', he, e1, e2, e3⟩ := wp_iff.1 hw
 obtain ⟨a2, s2, he2, hq2⟩ := wp_iff.1 hq
 have := he.run.symm.trans he2.run
 injection this with q1 q2
 subst q1; subst q2; subst e1; subst e2; subst e3
 exact hq2
theorem w64 {n : Int} (h1 : -9223372036854775808 ≤ n) (h2 : n ≤ 9223372036854775807) : IntKind.i64.wrap n = n := IntWalk.i64_in n ⟨h1, h2⟩
theorem wu64 {n : Int} (h1 : 0 ≤ n) (h2 : n ≤ 18446744073709551615) : IntKind.u64.wrap n = n := IntWalk.u64_in n ⟨h1, h2⟩
theorem wu8 {n : Int} (h1 : 0 ≤ n) (h2 : n ≤ 255) : IntKind.u8.wrap n = n := IntWalk.u8_in n ⟨h1, h2⟩
theorem nc0 : ((0 : Nat) : Int) = 0 := rfl
theorem nc1 : ((1 : Nat) : Int) = 1 := rfl
theorem int_beq (a b : Int) : (a == b) = decide (a = b) := rfl
theorem int_bne (a b : Int) : (a != b) = decide (¬ a = b) := by by_cases h : a = b <;> simp [h]
theorem str_beq (a b : List UInt8) : (a == b) = decide (a = b) := by by_cases h : a = b <;> simp [h]
def core1 := And.intro @run_seq (And.intro @run_region (And.intro @run_skip (And.intro @run_label (And.intro @run_exit (And.intro @run_ret (And.intro @run_scope (And.intro @run_block (And.intro @run_cond
 (And.intro @if_true (And.intro @if_false (And.intro @if_btrue (And.intro @if_bfalse (And.intro @cont_seq (And.intro @cont_seq_ret (And.intro @cont_seq_exit (And.intro @cont_block (And.intro @cont_block_ret
 (And.intro @cont_block_same (And.intro @cont_loop (And.intro @cont_loop_ret (And.intro @cont_loop_exit (And.intro @cont_nil (And.intro @ops_nil (And.intro @ops_cons (And.intro @ops_guard (And.intro @opgo_some
 (And.intro @opg_bool (And.intro @opg_tt (And.intro @opg_ff (And.intro @opg_tf (And.intro @opg_ft (And.intro @opg_undef (And.intro @opv_pure (And.intro @opv_fail (And.intro @opv_get (And.intro @opv_set
 (And.intro @opv_kill (And.intro @opv_new (And.intro @opv_ob (And.intro @opv_ask (And.intro @bind_pure (And.intro @bind_fail @bind_assoc))))))))))))))))))))))))))))))))))))))))))
end Go.Am
set_option linter.unusedSimpArgs false
set_option linter.unusedVariables false
set_option linter.defProp false
namespace Go.Am
open Go Go.RowKit
variable {E : Env} {fn : FuncId} {rnd : Option Nat} {Q : Post0} {ks : List Kf} {tm : List AVal} {h : Hp} {n : Nat} {ops rest : List Oper} {d : Option Tmp}
theorem rl_list {ρ : Ren} {m : Mem} (l : List AVal) (xs : Array Value) (hv : RV ρ m l xs.toList) : RL ρ m l xs := by
 have := hv.list
 simpa using this
def u8 (b : UInt8) : AVal := .int .u8 (b.toNat : Int)
inductive Bytes (h : Hp) : AVal → List UInt8 → Prop
 | nils : Bytes h .nils []
 | isl (f : Nat → AVal) (off : Nat) (l : List UInt8) (hf : ∀ j (hj : j < l.length), f (off + j) = u8 l[j]) : Bytes h (.isl f 1 off l.length) l
 | sl (id off : Nat) (cap : Option Nat) (c : Cont) (e : TypeId) (l : List UInt8) (hh : h id = some (.row c e)) (hs : off + l.length ≤ c.size) (hc : ∀ j (hj : j < l.length), c.at (off + j) = u8 l[j]) : Bytes h (.sl id off l.length cap 1) l
theorem Bytes.len {v : AVal} {l : List UInt8} (hb : Bytes h v l) : lenOf v = M.pure l.length := by
 cases hb <;> rfl
theorem Bytes.bLen {v : AVal} {l : List UInt8} (hb : Bytes h v l) {t : TypeId} {ts : List TypeId} {e : TypeId} (ht : und E t = M.pure (.slice e)) : bLen E (t :: ts) v = M.pure (.int .i64 l.length) := by
 cases hb <;> simp only [Am.bLen, ht, bind_pure, lenOf, List.length_nil] <;> rfl
def addrOf (i : Nat) : AVal → AVal
 | .isl g sz off len => .ip g (off + len * sz) (off + i)
 | .sl id off _ _ _ => .ptr id (off + i)
 | v => v
theorem cellsOf_one (f : Nat → AVal) (off : Nat) : cellsOf f off 1 = [f off] := rfl
theorem Bytes.index {v : AVal} {l : List UInt8} (hb : Bytes h v l) {t e : TypeId} (ht : und E t = M.pure (.slice e)) (he : sizeOf E e = M.pure 1) {k : IntKind} {i : Int} :
  OpV E fn rnd Q ks ops rest d tm (indexAddr E t v (.int k i)) h n ↔ (0 ≤ i ∧ i < l.length) ∧ Ops E fn rnd Q ks ops rest (putT tm d (addrOf i.toNat v)) h n := by
 cases hb with
 | nils =>
  simp only [indexAddr, ht, he, bind_pure, intK, slK, opv_fail, List.length_nil]; constructor
  ·exact False.elim
  ·rintro ⟨⟨a, b⟩, _⟩; exact absurd b (by simp; omega)
 | isl f off l hf => simp only [indexAddr, ht, he, bind_pure, intK, slK, idx, bind_assoc, opv_ob, opv_pure, addrOf, decide_eq_true_eq, Nat.mul_one, show (Nat.beq 1 1) = true from rfl]
 | sl id off cap c e l hh hs hc => simp only [indexAddr, ht, he, bind_pure, intK, slK, idx, bind_assoc, opv_ob, opv_pure, addrOf, decide_eq_true_eq, Nat.mul_one, show (Nat.beq 1 1) = true from rfl]
theorem Cont.at_l {xs : List AVal} {i : Nat} (hi : i < xs.length) : (Cont.l xs).at i = xs[i] := by
 show nth xs i .junk = xs[i]
 induction xs generalizing i with
 | nil => simp at hi
 | cons a xs ih =>
  cases i with
  | zero => rfl
  | succ i => simp only [nth, List.getElem_cons_succ]; exact ih (by simpa using hi)
theorem Cont.sub_one {c : Cont} {o : Nat} (ho : o < c.size) : c.sub o 1 = [c.at o] := by
 cases c with
 | f m g => rfl
 | l xs =>
  rw [Cont.at_l ho]
  show (xs.drop o).take 1 = [xs[o]]
  rw [List.drop_eq_getElem_cons ho]; rfl
theorem Bytes.load {v : AVal} {l : List UInt8} (hb : Bytes h v l) {e : TypeId} {i : TI} (he : ti E e = M.pure i) (ha : aggB i.desc = false) {j : Nat} (hj : j < l.length) :
  OpV E fn rnd Q ks ops rest d tm (load E e (addrOf j v)) h n ↔ Ops E fn rnd Q ks ops rest (putT tm d (u8 l[j])) h n := by
 cases hb with
 | nils => simp at hj
 | isl f off l hf =>
  simp only [Am.load, he, ha, bind_pure, addrOf, readCells, bind_assoc, opv_ob, cellsOf_one, oneOf, opv_pure, hf j hj]
  simp; omega
 | sl id off cap c e l hh hs hc =>
  simp only [Am.load, he, ha, bind_pure, addrOf, readCells, bind_assoc, opv_get, hh, Option.some.injEq, exists_eq_left', rowK, opv_ob]
  rw [Cont.sub_one (by omega), hc j hj]
  simp only [oneOf, opv_pure]
  simp; omega
theorem allByte (l : List UInt8) : (l.map u8).all isByte = true := by
 induction l with
 | nil => rfl
 | cons a l ih => simp [u8, isByte, ih]
theorem toByte_u8 (l : List UInt8) : (l.map u8).map toByte = l := by
 induction l with
 | nil => rfl
 | cons a l ih => simp [u8, toByte, ih]
theorem cellsOf_eq (f : Nat → AVal) : ∀ (k off : Nat) (l : List AVal), l.length = k → (∀ j (hj : j < l.length), f (off + j) = l[j]) → cellsOf f off k = l := by
 intro k
 induction k with
 | zero => intro off l hl _; cases l with | nil => rfl | cons a l => simp at hl
 | succ k ih =>
  intro off l hl hf
  cases l with
  | nil => simp at hl
  | cons a l =>
   have h0 := hf 0 (by simp)
   simp only [cellsOf, Nat.add_zero, List.getElem_cons_zero] at h0 ⊢
   rw [h0, ih (off + 1) l (by simpa using hl) (fun j hj => by
    have := hf (j + 1) (by simpa using hj)
    rw [List.getElem_cons_succ] at this
    rw [← this]; congr 1; omega)]
theorem Cont.sub_eq {c : Cont} {off : Nat} {l : List AVal} (hs : off + l.length ≤ c.size) (hc : ∀ j (hj : j < l.length), c.at (off + j) = l[j]) : c.sub off l.length = l := by
 cases c with
 | f m g => exact cellsOf_eq g _ off l rfl hc
 | l xs =>
  show (xs.drop off).take l.length = l
  apply List.ext_getElem
  ·simp [Cont.size] at hs ⊢; omega
  ·intro j h1 h2
   rw [List.getElem_take, List.getElem_drop]
   have := hc j h2
   rw [Cont.at_l (by simp [Cont.size] at hs; omega)] at this
   exact this
theorem Bytes.cells {α : Type} {v : AVal} {l : List UInt8} (hb : Bytes h v l) {f : List AVal → M α} {Q : α → Hp → Nat → Prop} : Wp ((sliceCells 1 l.length v).bind f) h n Q ↔ Wp (f (l.map u8)) h n Q := by
 cases hb with
 | nils => simp only [sliceCells, bind_assoc, bind_pure, wp_ob, List.length_nil, List.map_nil]; simp
 | isl g off l hf =>
  simp only [sliceCells, sameSz, bind_assoc, bind_pure, wp_ob, Nat.mul_one, show (Nat.beq 1 1) = true from rfl]
  rw [cellsOf_eq g l.length off (l.map u8) (by simp) (fun j hj => by rw [hf j (by simpa using hj)]; simp)]
  simp
 | sl id off cap c e l hh hs hc =>
  simp only [sliceCells, sameSz, bind_assoc, wp_get, hh, Option.some.injEq, exists_eq_left', rowK, wp_ob, Nat.mul_one, show (Nat.beq 1 1) = true from rfl]
  have := Cont.sub_eq (c := c) (off := off) (l := l.map u8) (by simpa using hs) (fun j hj => by rw [hc j (by simpa using hj)]; simp)
  simp only [List.length_map] at this
  simp only [bind_assoc, wp_ob, bind_pure, this]
  simp [hs]
theorem Bytes.str {v : AVal} {l : List UInt8} (hb : Bytes h v l) {t t2 e : TypeId} (ht : und E t = M.pure (.slice e)) (h2 : und E t2 = M.pure .string) (he : und E e = M.pure (.int .u8)) :
  OpV E fn rnd Q ks ops rest d tm (convert E t t2 v) h n ↔ Ops E fn rnd Q ks ops rest (putT tm d (.str l)) h n := by
 have key : convert E t t2 v = convStr E e v := by
  cases hb <;> simp only [convert, ht, h2, bind_pure]
 rw [key]
 simp only [convStr, he, bind_pure, isU8, hb.len, OpV]
 rw [hb.cells]
 simp only [wp_ob, allByte, true_and, wp_pure, toByte_u8]
theorem Bytes.fresh {l : List UInt8} {e : TypeId} {cap : Option Nat} (hh : h n = some (.row (.l (l.map u8)) e)) : Bytes h (.sl n 0 l.length cap 1) l :=
 .sl n 0 cap _ e l hh (by simp [Cont.size]) (fun j hj => by rw [Nat.zero_add, Cont.at_l (by simpa using hj)]; simp)
def Old (h h' : Hp) (n : Nat) : Prop := ∀ j, j < n → h' j = h j
def Below0 (n : Nat) : AVal → Prop
 | .sl id _ _ _ _ => id < n
 | _ => True
theorem Bytes.old {v : AVal} {l : List UInt8} {h' : Hp} (hb : Bytes h v l) (hv : Below0 n v) (ho : Old h h' n) : Bytes h' v l := by
 cases hb with
 | nils => exact .nils
 | isl f off l hf => exact .isl f off l hf
 | sl id off cap c e l hh hs hc => exact .sl id off cap c e l (by rw [ho id hv]; exact hh) hs hc
theorem Old.refl (h : Hp) (n : Nat) : Old h h n := fun _ _ => rfl
theorem Old.trans {h1 h2 h3 : Hp} {n m : Nat} (a : Old h1 h2 n) (b : Old h2 h3 m) (hm : n ≤ m) : Old h1 h3 n := fun j hj => (b j (by omega)).trans (a j hj)
theorem Old.upd {h1 h2 : Hp} {n i : Nat} {b : Option Blk} (a : Old h1 h2 n) (hi : n ≤ i) : Old h1 (upd h2 i b) n := fun j hj => by rw [upd_ne _ _ (by omega)]; exact a j hj
theorem Below0.mono {n m : Nat} {v : AVal} (hv : Below0 n v) (hm : n ≤ m) : Below0 m v := by
 cases v <;> simp only [Below0] at hv ⊢ <;> omega
def byteOf (z : Int) : UInt8 := UInt8.ofNat z.toNat
theorem byteOf_eq {z : Int} (hz : (Lit.int .u8 z).wf = true) : ((byteOf z).toNat : Int) = z := by
 simp only [Lit.wf, Bool.and_eq_true, decide_eq_true_eq] at hz
 have h1 : IntKind.u8.min = 0 := rfl
 have h2 : IntKind.u8.max = 255 := rfl
 rw [h1, h2] at hz
 unfold byteOf
 rw [UInt8.toNat_ofNat']
 have : z.toNat % 2 ^ 8 = z.toNat := Nat.mod_eq_of_lt (by omega)
 rw [this]; omega
structure ArgBytes (v : AVal) (l : List UInt8) : Prop where
 bytes : ∀ h, Bytes h v l
 below : ∀ n, Below0 n v
end Go.Am
set_option linter.unusedSimpArgs false
set_option linter.unusedVariables false
set_option linter.defProp false
namespace Go.Am
open Go Go.RowKit
variable {E : Env} {fn : FuncId} {rnd : Option Nat} {Q : Post0} {ks : List Kf} {tm : List AVal} {h : Hp} {n : Nat} {ops rest : List Oper} {d : Option Tmp}
inductive Own (h : Hp) (n : Nat) (e : TypeId) (sz : Nat) : AVal → Nat → List AVal → Prop
 | nil : Own h n e sz .nils 0 []
 | sl (id cnt : Nat) (xs : List AVal) (hid : id < n) (hh : h id = some (.row (.l xs) e)) (hl : xs.length = cnt * sz) : Own h n e sz (.sl id 0 cnt none sz) cnt xs
 | full (id cnt : Nat) (xs : List AVal) (e' : TypeId) (hid : id < n) (hh : h id = some (.row (.l xs) e')) (hl : xs.length = cnt * sz) : Own h n e sz (.sl id 0 cnt (some cnt) sz) cnt xs
def ownId : AVal → Option Nat
 | .sl id _ _ _ _ => some id
 | _ => none
theorem Own.len {e : TypeId} {sz cnt : Nat} {v : AVal} {xs : List AVal} (ho : Own h n e sz v cnt xs) : lenOf v = M.pure cnt := by cases ho <;> rfl
theorem Own.length {e : TypeId} {sz cnt : Nat} {v : AVal} {xs : List AVal} (ho : Own h n e sz v cnt xs) : xs.length = cnt * sz := by cases ho with | nil => simp | sl id cnt xs hid hh hl => exact hl | full id cnt xs e' hid hh hl => exact hl
theorem Own.below {e : TypeId} {sz cnt : Nat} {v : AVal} {xs : List AVal} (ho : Own h n e sz v cnt xs) : Below0 n v := by cases ho with | nil => trivial | sl id cnt xs hid hh hl => exact hid | full id cnt xs e' hid hh hl => exact hid
theorem Own.keep {e : TypeId} {sz cnt : Nat} {v : AVal} {xs : List AVal} {h' : Hp} {n' : Nat} (ho : Own h n e sz v cnt xs) (hn : n ≤ n') (hk : ∀ j, ownId v = some j → h' j = h j) : Own h' n' e sz v cnt xs := by
 cases ho with
 | nil => exact .nil
 | sl id cnt xs hid hh hl => exact .sl id cnt xs (by omega) (by rw [hk id rfl]; exact hh) hl
 | full id cnt xs e' hid hh hl => exact .full id cnt xs e' (by omega) (by rw [hk id rfl]; exact hh) hl
theorem Own.id_lt {e : TypeId} {sz cnt : Nat} {v : AVal} {xs : List AVal} (ho : Own h n e sz v cnt xs) {j : Nat} (hj : ownId v = some j) : j < n := by
 cases ho with
 | nil => cases hj
 | sl id cnt xs hid hh hl => injection hj with hj; omega
 | full id cnt xs e' hid hh hl => injection hj with hj; omega
theorem Own.bytes {e : TypeId} {cnt : Nat} {v : AVal} {l : List UInt8} (ho : Own h n e 1 v cnt (l.map u8)) : Bytes h v l := by
 have hl := ho.length
 simp only [List.length_map, Nat.mul_one] at hl
 generalize hx : l.map u8 = xs at ho
 cases ho with
 | nil =>
  have : l = [] := by simpa using hx
  subst this; exact .nils
 | sl id cnt xs hid hh hl2 =>
  subst hl; subst hx
  exact .fresh (n := id) hh
 | full id cnt xs e' hid hh hl2 =>
  subst hl; subst hx
  exact .fresh (n := id) hh
theorem blit_of {a b : Nat} (hh : ¬ a ≤ b) : a.ble b = false := by
 cases hc : a.ble b with
 | false => rfl
 | true => exact absurd (Nat.le_of_ble_eq_true hc) hh
theorem ble_of {a b : Nat} (hh : a ≤ b) : a.ble b = true := Nat.ble_eq_true_of_le hh
theorem beq_of {a b : Nat} (hh : ¬ a = b) : a.beq b = false := by
 cases hc : a.beq b with
 | false => rfl
 | true => exact absurd (Nat.eq_of_beq_eq_true hc) hh
theorem wp_append_x {Q : AVal → Hp → Nat → Prop} {t t2 e : TypeId} {i : TI} {s x : AVal} {cnt k : Nat} {xs ys : List AVal} (hs : Own h n e i.size s cnt xs)
  (ht : und E t = M.pure (.slice e)) (ht2 : und E t2 = M.pure (.slice e)) (hi : ti E e = M.pure i) (hxl : lenOf x = M.pure k)
  (hxc : ∀ {α : Type} (f : List AVal → M α) (Q : α → Hp → Nat → Prop), Wp ((sliceCells i.size k x).bind f) h n Q ↔ Wp (f ys) h n Q) (hy : ys.length = k * i.size) (hk : 0 < k) (hz : 0 < i.size) (hc : ys.all oneCell = true)
  (hroom : 2 * (cnt + k) * i.bytes ≤ 281474976710656) (hroom2 : cnt + k ≤ 281474976710656)
  (hq : ∀ h', h' n = some (.row (.l (xs ++ ys)) e) → (∀ j, j ≠ n → ownId s ≠ some j → h' j = h j) → Q (.sl n 0 (cnt + k) none i.size) h' (n + 1)) :
  Wp (bAppend E [t, t2] s x) h n Q := by
 have hk0 : k.beq 0 = false := beq_of (by omega)
 simp only [bAppend, ht2, bind_pure, intB, append, ht, hi, hxl, bind_assoc, wp_ask, hk0]
 rw [hxc]
 have r1 : ((2 * (cnt + k) * i.bytes).ble room && (cnt + k).ble room) = true := by
  unfold room
  rw [ble_of hroom, ble_of hroom2]; rfl
 cases hs with
 | nil =>
  rw [Nat.zero_add] at r1
  simp only [grown, wp_ob, wp_new, wp_pure, r1, true_and]
  rw [Nat.zero_add] at hq
  exact hq (upd h n (some (.row (.l ys) e))) (upd_same _ _ _) (fun j hj _ => upd_ne _ _ hj)
 | full id cnt xs e' hid hh hl =>
  have hfit : (cnt + k).ble cnt = false := blit_of (by omega)
  simp only [sameSz, Nat.beq_refl, wp_get, hh, Option.some.injEq, exists_eq_left', rowK, wp_ask, Nat.zero_add, hfit, sliceCells, bind_assoc, wp_ob, Nat.ble_self_eq_true, Cont.size, ← hl, true_and, bind_pure, Cont.sub, List.drop_zero, List.take_length, grown, r1, wp_new, wp_pure]
  exact hq (upd h n (some (.row (.l (xs ++ ys)) e))) (upd_same _ _ _) (fun j hj _ => upd_ne _ _ hj)
 | sl id cnt xs hid hh hl =>
  have hfit : ((cnt + k) * i.size).ble xs.length = false := blit_of (by rw [hl, Nat.add_mul]; have : 0 < k * i.size := Nat.mul_pos hk hz; omega)
  simp only [sameSz, Nat.beq_refl, wp_get, hh, Option.some.injEq, exists_eq_left', rowK, wp_ask, Cont.size, hfit, hc, Bool.and_true, sliceCells, bind_assoc, wp_ob, Cont.sub, List.drop_zero, Nat.zero_add, ← hl, List.take_length, Nat.ble_self_eq_true,
   true_and, bind_pure, wp_kill, grown, wp_new, wp_pure, r1, ne_eq, not_false_eq_true, reduceCtorEq]
  refine hq (upd (upd h id none) n (some (.row (.l (xs ++ ys)) e))) (upd_same _ _ _) (fun j hj hj2 => ?_)
  rw [upd_ne _ _ hj, upd_ne _ _ (fun e => hj2 (by rw [e]; rfl))]
theorem own_append_x {t t2 e : TypeId} {i : TI} {s x : AVal} {cnt k : Nat} {xs ys : List AVal} (hs : Own h n e i.size s cnt xs)
  (ht : und E t = M.pure (.slice e)) (ht2 : und E t2 = M.pure (.slice e)) (hi : ti E e = M.pure i) (hxl : lenOf x = M.pure k)
  (hxc : ∀ {α : Type} (f : List AVal → M α) (Q : α → Hp → Nat → Prop), Wp ((sliceCells i.size k x).bind f) h n Q ↔ Wp (f ys) h n Q) (hy : ys.length = k * i.size) (hk : 0 < k) (hz : 0 < i.size) (hc : ys.all oneCell = true)
  (hroom : 2 * (cnt + k) * i.bytes ≤ 281474976710656) (hroom2 : cnt + k ≤ 281474976710656)
  (hq : ∀ h', h' n = some (.row (.l (xs ++ ys)) e) → (∀ j, j ≠ n → ownId s ≠ some j → h' j = h j) → Ops E fn rnd Q ks ops rest (putT tm d (.sl n 0 (cnt + k) none i.size)) h' (n + 1)) :
  OpV E fn rnd Q ks ops rest d tm (bAppend E [t, t2] s x) h n := wp_append_x hs ht ht2 hi hxl hxc hy hk hz hc hroom hroom2 hq
theorem own_append' {t t2 e : TypeId} {i : TI} {s x : AVal} {cnt k : Nat} {xs ys : List AVal} (hs : Own h n e i.size s cnt xs)
  (ht : und E t = M.pure (.slice e)) (ht2 : und E t2 = M.pure (.slice e)) (hi : ti E e = M.pure i) (hxl : lenOf x = M.pure k)
  (hxc : ∀ {α : Type} (f : List AVal → M α) (Q : α → Hp → Nat → Prop), Wp ((sliceCells i.size k x).bind f) h n Q ↔ Wp (f ys) h n Q) (hy : ys.length = k * i.size) (hk : 0 < k) (hz : 0 < i.size) (hc : ys.all oneCell = true)
  (hroom : 2 * (cnt + k) * i.bytes ≤ 281474976710656) (hroom2 : cnt + k ≤ 281474976710656)
  (hq : ∀ v' h', Own h' (n + 1) e i.size v' (cnt + k) (xs ++ ys) → ownId v' = some n → (∀ j, j ≠ n → ownId s ≠ some j → h' j = h j) → Ops E fn rnd Q ks ops rest (putT tm d v') h' (n + 1)) :
  OpV E fn rnd Q ks ops rest d tm (bAppend E [t, t2] s x) h n :=
 own_append_x hs ht ht2 hi hxl hxc hy hk hz hc hroom hroom2 fun h' hh hold =>
  hq _ h' (.sl n (cnt + k) _ (by omega) hh (by have := hs.length; simp [hy, this, Nat.add_mul])) rfl hold
theorem own_append {t t2 e e2 : TypeId} {i : TI} {s : AVal} {cnt k i2 : Nat} {c2 : Option Nat} {xs ys : List AVal} (hs : Own h n e i.size s cnt xs)
  (ht : und E t = M.pure (.slice e)) (ht2 : und E t2 = M.pure (.slice e)) (hi : ti E e = M.pure i) (h2 : h i2 = some (.row (.l ys) e2)) (hy : ys.length = k * i.size) (hk : 0 < k) (hz : 0 < i.size) (hc : ys.all oneCell = true)
  (hne : ownId s ≠ some i2) (hroom : 2 * (cnt + k) * i.bytes ≤ 281474976710656) (hroom2 : cnt + k ≤ 281474976710656)
  (hq : ∀ v' h', Own h' (n + 1) e i.size v' (cnt + k) (xs ++ ys) → ownId v' = some n → (∀ j, j ≠ n → ownId s ≠ some j → h' j = h j) → Ops E fn rnd Q ks ops rest (putT tm d v') h' (n + 1)) :
  OpV E fn rnd Q ks ops rest d tm (bAppend E [t, t2] s (.sl i2 0 k c2 i.size)) h n := by
 refine own_append' hs ht ht2 hi rfl ?_ hy hk hz hc hroom hroom2 hq
 intro α f Q
 simp only [sliceCells, sameSz, bind_assoc, Nat.beq_refl, wp_get, h2, Option.some.injEq, exists_eq_left', rowK, wp_ob, bind_pure, Cont.size, Cont.sub, List.drop_zero, Nat.zero_add, ← hy, List.take_length, Nat.ble_self_eq_true, true_and]
theorem u8_one (l : List UInt8) : (l.map u8).all oneCell = true := by
 induction l with
 | nil => rfl
 | cons a l ih => simp [u8, oneCell, ih]
theorem run_range {f : Operand} {ps : Array Tmp} {a b : Code} {g : FuncId} {first cap : List AVal} (hf : opd tm f = .fn (.func g) first cap) (hg : (E.funcs.find g).f.beq g = true)
  (hw : Wp (callF E (evalW E) g (first ++ [AVal.fn (.yield n) [] []] ++ cap)) (upd h n (some (.loop { state := .ready, pending := none, fn := fn, tmps := tm, params := ps.toList, assign := a, body := b }))) (n + 1) fun v h' n' =>
   ∃ l, h' n = some (.loop l) ∧ l.state ≠ .busy ∧ ∃ e, (match l.pending with | none => e = .normal | some .ret => e = .ret | some (.exit j) => e = .exit j | _ => False) ∧
    Kont E fn none Q ks e tm (upd h' n (some (.loop { l with state := .exhausted }))) n') :
  Run E fn none Q (.rangeFunc f ps a b) ks tm h n := by
 unfold Run; rw [wp_step]
 simp only [step, hf, hg, bind_pure, wp_bind_iff, wp_new']
 refine wp_mono hw fun v h' n' ⟨l, hl, hb, e, he, hk⟩ => ?_
 simp only [rangeK, wp_get, hl, Option.some.injEq, exists_eq_left', loopK]
 cases hs : l.state with
 | busy => exact absurd hs hb
 | _ =>
  simp only [wp_set, hl, ne_eq, reduceCtorEq, not_false_eq_true, true_and]
  cases hp : l.pending with
  | none => rw [hp] at he; simp only at he; subst he; rw [hp] at hk; simp only [wp_pure]; exact hk
  | some c =>
   rw [hp] at he
   cases c with
   | ret => simp only at he; subst he; rw [hp] at hk; simp only [wp_pure]; exact hk
   | exit j => simp only at he; subst he; rw [hp] at hk; simp only [wp_pure]; exact hk
   | _ => exact he.elim
theorem opv_yield {id : Nat} {args : List AVal} {l : ALoop} (hl : h id = some (.loop l)) (hs : l.state = .ready) (ha : args.length.beq l.params.length = true)
  (hw : Run E l.fn (some id) (fun e tm1 h1 n1 => e = .normal ∧ ∃ l2, h1 id = some (.loop l2) ∧ l2.state = .ready ∧
   Run E l.fn (some id) (fun e2 tm2 h2 n2 => ∃ l3, h2 id = some (.loop l3) ∧
    Ops E fn rnd Q ks ops rest (putT tm d (.blit (normB e2))) (upd h2 id (some (.loop { l3 with state := (match normB e2 with | true => .ready | false => .done), pending := jumpOf e2 }))) n2)
    l.body [] tm1 (upd h1 id (some (.loop { l2 with state := .busy }))) n1) l.assign [] (putAll l.tmps (l.params.zip args)) h n) :
  OpV E fn rnd Q ks ops rest d tm (callV E (evalW E) (.fn (.yield id) [] []) args) h n := by
 simp only [callV, yieldTo]
 rw [opv_get]
 refine ⟨_, hl, ?_⟩
 simp only [loopK, ha, hs, OpV, wp_bind_iff]
 refine wp_mono hw fun r h1 n1 hr => ?_
 obtain ⟨e, tm1⟩ := r
 obtain ⟨he, l2, hl2, hs2, hb⟩ := hr
 subst he
 refine wp_get.2 ⟨_, hl2, ?_⟩
 simp only [loopK, hs2]
 refine wp_set.2 ⟨by rw [hl2]; simp, ?_⟩
 refine wp_bind_iff.2 (wp_mono hb fun r2 h2 n2 hr2 => ?_)
 obtain ⟨e2, tm2⟩ := r2
 obtain ⟨l3, hl3, hq⟩ := hr2
 refine wp_get.2 ⟨_, hl3, ?_⟩
 simp only [loopK]
 refine wp_set.2 ⟨by rw [hl3]; simp, ?_⟩
 exact wp_pure.2 hq
def loopsOf : Code → List Code
 | .seq a b => loopsOf a ++ loopsOf b
 | .cond _ a b => loopsOf a ++ loopsOf b
 | .block _ c => loopsOf c
 | .loop c => c :: loopsOf c
 | .scope c => loopsOf c
 | .rangeFunc _ _ a b => loopsOf a ++ loopsOf b
 | _ => []
def rangesOf : Code → List (Code × Code)
 | .seq a b => rangesOf a ++ rangesOf b
 | .cond _ a b => rangesOf a ++ rangesOf b
 | .block _ c => rangesOf c
 | .loop c => rangesOf c
 | .scope c => rangesOf c
 | .rangeFunc _ _ a b => (a, b) :: (rangesOf a ++ rangesOf b)
 | _ => []
end Go.Am
set_option linter.unusedSimpArgs false
set_option linter.unusedVariables false
set_option linter.defProp false
namespace Go.Am
open Go Go.RowKit
variable {E : Env} {fn : FuncId} {rnd : Option Nat} {Q : Post0} {ks : List Kf} {tm : List AVal} {h : Hp} {n : Nat} {ops rest : List Oper} {d : Option Tmp}
theorem put_set : ∀ (l : List AVal) (i : Nat) (v : AVal), put l i v = l.set i v := by
 intro l
 induction l with
 | nil => intro i v; rfl
 | cons a l ih => intro i v; cases i with
  | zero => rfl
  | succ i => simp only [put, List.set_cons_succ, ih]
theorem own_store {t e : TypeId} {i : TI} {v w : AVal} {cnt j : Nat} {xs : List AVal} (ho : Own h n e 1 v cnt xs) (hj : j < cnt) (hi : ti E t = M.pure i) (hs : i.size = 1) (hw : w.cells = [w]) (ho1 : oneCell w = true)
  (hq : ∀ h', Own h' n e 1 v cnt (xs.set j w) → (∀ k, ownId v ≠ some k → h' k = h k) → Ops E fn rnd Q ks ops rest (putT tm d undef) h' n) :
  OpV E fn rnd Q ks ops rest d tm (doStore E t (addrOf j v) w) h n := by
 cases ho with
 | nil => omega
 | full id cnt xs e' hid hh hl =>
  simp only [doStore, store, hi, bind_pure, hw, hs, List.length_singleton, show Nat.beq 1 1 = true from rfl, addrOf, writeCells, bind_assoc, OpV, wp_get, hh, Option.some.injEq, exists_eq_left', rowK, wp_ob, Cont.size, List.all_cons, List.all_nil, ho1, Bool.and_true, wp_set,
   wp_pure, setAll, Cont.set, Nat.zero_add]
  refine ⟨ble_of (by omega), by simp, ?_⟩
  refine hq (upd h id (some (.row (.l (xs.set j w)) e'))) (.full id cnt _ e' hid (upd_same _ _ _) (by simpa using hl)) (fun k hk => upd_ne _ _ (fun e => hk (by rw [e]; rfl))) |> fun x => ?_
  rw [put_set]; exact x
 | sl id cnt xs hid hh hl =>
  simp only [doStore, store, hi, bind_pure, hw, hs, List.length_singleton, show Nat.beq 1 1 = true from rfl, addrOf, writeCells, bind_assoc, OpV, wp_get, hh, Option.some.injEq, exists_eq_left', rowK, wp_ob, Cont.size, List.all_cons, List.all_nil, ho1, Bool.and_true, wp_set,
   wp_pure, setAll, Cont.set, Nat.zero_add]
  refine ⟨ble_of (by omega), by simp, ?_⟩
  refine hq (upd h id (some (.row (.l (xs.set j w)) e))) (.sl id cnt _ hid (upd_same _ _ _) (by simpa using hl)) (fun k hk => upd_ne _ _ (fun e => hk (by rw [e]; rfl))) |> fun x => ?_
  rw [put_set]; exact x
theorem k_bool (b : Bool) : (AVal.bool b).cells = [.bool b] ∧ oneCell (.bool b) = true ∧ isJunk (.bool b) = false := ⟨rfl, rfl, rfl⟩
theorem k_blit (b : Bool) : (AVal.blit b).cells = [.blit b] ∧ oneCell (.blit b) = true ∧ isJunk (.blit b) = false := ⟨rfl, rfl, rfl⟩
theorem k_int (k : IntKind) (x : Int) : (AVal.int k x).cells = [.int k x] ∧ oneCell (.int k x) = true ∧ isJunk (.int k x) = false := ⟨rfl, rfl, rfl⟩
theorem k_str (l : List UInt8) : (AVal.str l).cells = [.str l] ∧ oneCell (.str l) = true ∧ isJunk (.str l) = false := ⟨rfl, rfl, rfl⟩
theorem k_nilp  : (AVal.nilp ).cells = [.nilp ] ∧ oneCell (.nilp ) = true ∧ isJunk (.nilp ) = false := ⟨rfl, rfl, rfl⟩
theorem k_nils  : (AVal.nils ).cells = [.nils ] ∧ oneCell (.nils ) = true ∧ isJunk (.nils ) = false := ⟨rfl, rfl, rfl⟩
theorem k_nilm  : (AVal.nilm ).cells = [.nilm ] ∧ oneCell (.nilm ) = true ∧ isJunk (.nilm ) = false := ⟨rfl, rfl, rfl⟩
theorem k_nilf  : (AVal.nilf ).cells = [.nilf ] ∧ oneCell (.nilf ) = true ∧ isJunk (.nilf ) = false := ⟨rfl, rfl, rfl⟩
theorem k_nili  : (AVal.nili ).cells = [.nili ] ∧ oneCell (.nili ) = true ∧ isJunk (.nili ) = false := ⟨rfl, rfl, rfl⟩
theorem k_emp  : (AVal.emp ).cells = [.emp ] ∧ oneCell (.emp ) = true ∧ isJunk (.emp ) = false := ⟨rfl, rfl, rfl⟩
theorem k_ptr (i o : Nat) : (AVal.ptr i o).cells = [.ptr i o] ∧ oneCell (.ptr i o) = true ∧ isJunk (.ptr i o) = false := ⟨rfl, rfl, rfl⟩
theorem k_sl (i o n : Nat) (c : Option Nat) (s : Nat) : (AVal.sl i o n c s).cells = [.sl i o n c s] ∧ oneCell (.sl i o n c s) = true ∧ isJunk (.sl i o n c s) = false := ⟨rfl, rfl, rfl⟩
theorem k_ip (f : Nat → AVal) (n o : Nat) : (AVal.ip f n o).cells = [.ip f n o] ∧ oneCell (.ip f n o) = true ∧ isJunk (.ip f n o) = false := ⟨rfl, rfl, rfl⟩
theorem k_isl (f : Nat → AVal) (s o n : Nat) : (AVal.isl f s o n).cells = [.isl f s o n] ∧ oneCell (.isl f s o n) = true ∧ isJunk (.isl f s o n) = false := ⟨rfl, rfl, rfl⟩
theorem k_fn (f : Fn) (a b : List AVal) : (AVal.fn f a b).cells = [.fn f a b] ∧ oneCell (.fn f a b) = true ∧ isJunk (.fn f a b) = false := ⟨rfl, rfl, rfl⟩
theorem k_map (i : Nat) : (AVal.map i).cells = [.map i] ∧ oneCell (.map i) = true ∧ isJunk (.map i) = false := ⟨rfl, rfl, rfl⟩
theorem k_agg (l : List AVal) : (AVal.agg l).cells = l ∧ isJunk (.agg l) = false := ⟨rfl, rfl⟩
def cel := (And.intro @k_bool (And.intro @k_blit (And.intro @k_int (And.intro @k_str (And.intro @k_nilp (And.intro @k_nils (And.intro @k_nilm (And.intro @k_nilf (And.intro @k_nili (And.intro @k_emp (And.intro @k_ptr (And.intro @k_sl (And.intro @k_ip (And.intro @k_isl (And.intro @k_fn (And.intro @k_map @k_agg))))))))))))))))
theorem Own.kind {e : TypeId} {sz cnt : Nat} {v : AVal} {xs : List AVal} (ho : Own h n e sz v cnt xs) : v.cells = [v] ∧ oneCell v = true ∧ isJunk v = false := by cases ho <;> exact ⟨rfl, rfl, rfl⟩
theorem Bytes.kind {v : AVal} {l : List UInt8} (hb : Bytes h v l) : v.cells = [v] ∧ oneCell v = true ∧ isJunk v = false := by cases hb <;> exact ⟨rfl, rfl, rfl⟩
theorem cont_block_any {i j : Nat} : Kont E fn rnd Q (.block i :: ks) (.exit j) tm h n ↔ (match j.beq i with | true => Kont E fn rnd Q ks .normal tm h n | false => Kont E fn rnd Q ks (.exit j) tm h n) := Iff.rfl
theorem opg_un {op : Op} {want : Bool} : OpG E fn rnd Q ks ops rest d tm op want undef h n ↔ Ops E fn rnd Q ks ops rest (putT tm d undef) h n := opg_undef
theorem callV_func {rec : Rec} (g : FuncId) (first cap args : List AVal) : callV E rec (.fn (.func g) first cap) args = callF E rec g (first ++ args ++ cap) := rfl
end Go.Am
set_option linter.unusedSimpArgs false
set_option linter.unusedVariables false
set_option linter.defProp false
namespace Go.Am
open Go Go.RowKit
variable {E : Env} {fn : FuncId} {rnd : Option Nat} {Q : Post0} {ks : List Kf} {tm : List AVal} {h : Hp} {n : Nat} {ops rest : List Oper} {d : Option Tmp}
def Fe (E : Env) (fn : FuncId) (rnd : Option Nat) (Q : Post0) (ks : List Kf) (ops : List Oper) (j : Nat) (rest : List Oper) (tm : List AVal) (fs : List Foot) (h : Hp) (n : Nat) : Prop :=
 Wp (evalFeet E (evalW E) ops j rest tm fs) h n fun r h' n' => fine (befores [] ops) r.2 = true ∧ Kont E fn rnd Q ks .normal (forget E fn r.1) h' n'
def FeV (E : Env) (fn : FuncId) (rnd : Option Nat) (Q : Post0) (ks : List Kf) (ops : List Oper) (j : Nat) (rest : List Oper) (d : Option Tmp) (tm : List AVal) (fs : List Foot) (m : M AVal) (h : Hp) (n : Nat) : Prop :=
 Wp (foot j m) h n fun r h' n' => Fe E fn rnd Q ks ops (j + 1) rest (putT tm d r.1) (r.2 :: fs) h' n'
variable {j : Nat} {fs : List Foot}
theorem run_draw {id : Nat} {ops : Array Oper} (hh : (noHook E.rhooks fn id && textFine ops.toList) = true ∧ Fe E fn rnd Q ks ops.toList 0 ops.toList tm [] h n) : Run E fn rnd Q (.region id ops true) ks tm h n := by
 obtain ⟨h1, h2⟩ := hh
 rw [Bool.and_eq_true] at h1
 unfold Fe at h2
 unfold Run; rw [wp_step]; simp only [step, chook_none h1.1, evalDraw, wp_bind_iff, wp_pure, wp_ob']
 exact ⟨h1.2, h2⟩
theorem fe_nil : Fe E fn rnd Q ks ops j [] tm fs h n ↔ fine (befores [] ops) fs = true ∧ Kont E fn rnd Q ks .normal (forget E fn tm) h n := by
 unfold Fe; simp only [evalFeet, wp_pure]
theorem fe_cons {op : Op} {ty : TypeId} {pos : String} {af : Array Edge} : Fe E fn rnd Q ks ops j (⟨d, op, ty, pos, af, none⟩ :: rest) tm fs h n ↔ FeV E fn rnd Q ks ops j rest d tm fs (execOp E (evalW E) tm op) h n := by
 unfold Fe FeV; simp only [evalFeet, opV, wanted, bind_pure, wp_bind_iff]; rfl
def FeG (E : Env) (fn : FuncId) (rnd : Option Nat) (Q : Post0) (ks : List Kf) (ops : List Oper) (j : Nat) (rest : List Oper) (d : Option Tmp) (tm : List AVal) (fs : List Foot) (o : Op) (want : Bool) (v : AVal) (h : Hp) (n : Nat) : Prop :=
 FeV E fn rnd Q ks ops j rest d tm fs ((wantB want v).bind fun w => match w with | true => execOp E (evalW E) tm o | false => M.pure undef) h n
def FeGo (E : Env) (fn : FuncId) (rnd : Option Nat) (Q : Post0) (ks : List Kf) (ops : List Oper) (j : Nat) (rest : List Oper) (d : Option Tmp) (tm : List AVal) (fs : List Foot) (o : Op) (want : Bool) (g : Option Oper) (h : Hp) (n : Nat) : Prop :=
 match g.bind (·.dst) with
 | some g => FeG E fn rnd Q ks ops j rest d tm fs o want (nth tm g undef) h n
 | none => FeV E fn rnd Q ks ops j rest d tm fs (M.pure undef) h n
theorem fe_guard {op : Op} {ty : TypeId} {pos : String} {af : Array Edge} {i : Nat} {want : Bool} :
  Fe E fn rnd Q ks ops j (⟨d, op, ty, pos, af, some (i, want)⟩ :: rest) tm fs h n ↔ FeGo E fn rnd Q ks ops j rest d tm fs op want ops[i]? h n := by
 unfold FeGo
 cases hg : (ops[i]?).bind (·.dst) with
 | none => unfold Fe FeV; simp only [evalFeet, opV, wanted, hg, bind_pure, wp_bind_iff]; rfl
 | some g => unfold Fe FeG FeV; simp only [evalFeet, opV, wanted, hg, wp_bind_iff]; rfl
theorem fego_some {op : Op} {want : Bool} {g : Tmp} {o2 : Op} {ty : TypeId} {pos : String} {af : Array Edge} {gg : Option (Nat × Bool)} :
  FeGo E fn rnd Q ks ops j rest d tm fs op want (some ⟨some g, o2, ty, pos, af, gg⟩) h n ↔ FeG E fn rnd Q ks ops j rest d tm fs op want (nth tm g undef) h n := Iff.rfl
theorem foot_ask {α : Type} {b : Bool} {f : Bool → M α} {Q : α × Foot → Hp → Nat → Prop} : Wp (foot j ((ask b).bind f)) h n Q ↔ Wp (foot j (f b)) h n Q := by
 have : ∀ s : St, s.orc = none → (foot j ((ask b).bind f)).run s = (foot j (f b)).run s := by
  intro s hs
  simp only [foot, footF, M.bind, bindF, ask, askF, hs]
 rw [wp_iff, wp_iff]
 constructor
 ·rintro ⟨a, s', he, hq⟩; exact ⟨a, s', ⟨by rw [← this (at0 h n) rfl]; exact he.run, he.obs, he.oc⟩, hq⟩
 ·rintro ⟨a, s', he, hq⟩; exact ⟨a, s', ⟨by rw [this (at0 h n) rfl]; exact he.run, he.obs, he.oc⟩, hq⟩
theorem feg_bool {op : Op} {want t : Bool} : FeG E fn rnd Q ks ops j rest d tm fs op want (.bool t) h n ↔ FeG E fn rnd Q ks ops j rest d tm fs op want (.blit t) h n := by
 simp only [FeG, wantB, FeV, bind_assoc, foot_ask, bind_pure]
theorem feg_tt {op : Op} : FeG E fn rnd Q ks ops j rest d tm fs op true (.blit true) h n ↔ FeV E fn rnd Q ks ops j rest d tm fs (execOp E (evalW E) tm op) h n := by
 simp only [FeG, wantB, bind_pure]; rfl
theorem feg_ff {op : Op} : FeG E fn rnd Q ks ops j rest d tm fs op false (.blit false) h n ↔ FeV E fn rnd Q ks ops j rest d tm fs (execOp E (evalW E) tm op) h n := by
 simp only [FeG, wantB, bind_pure]; rfl
theorem feg_tf {op : Op} : FeG E fn rnd Q ks ops j rest d tm fs op true (.blit false) h n ↔ FeV E fn rnd Q ks ops j rest d tm fs (M.pure undef) h n := by
 simp only [FeG, wantB, bind_pure]; rfl
theorem feg_ft {op : Op} : FeG E fn rnd Q ks ops j rest d tm fs op false (.blit true) h n ↔ FeV E fn rnd Q ks ops j rest d tm fs (M.pure undef) h n := by
 simp only [FeG, wantB, bind_pure]; rfl
theorem feg_un {op : Op} {want : Bool} : FeG E fn rnd Q ks ops j rest d tm fs op want undef h n ↔ FeV E fn rnd Q ks ops j rest d tm fs (M.pure undef) h n := by
 simp only [FeG, wantB, undef, bind_pure]
theorem fev_ask {b : Bool} {f : Bool → M AVal} : FeV E fn rnd Q ks ops j rest d tm fs ((ask b).bind f) h n ↔ FeV E fn rnd Q ks ops j rest d tm fs (f b) h n := by
 simp only [FeV, foot_ask]
theorem foot_pure {α : Type} {a : α} {Q : α × Foot → Hp → Nat → Prop} : Wp (foot j (M.pure a)) h n Q ↔ Q (a, ⟨j, [], [], n, n⟩) h n := by
 rw [wp_iff]
 constructor
 ·rintro ⟨r, s', he, hq⟩
  have h0 := he.run
  simp only [foot, footF, M.pure, at0, List.filter_nil, List.append_nil] at h0
  injection h0 with h1 h2
  subst h1; subst h2
  exact hq
 ·intro hq
  exact ⟨_, _, ⟨rfl, ⟨[], rfl, rfl⟩, rfl⟩, hq⟩
theorem fev_pure {v : AVal} : FeV E fn rnd Q ks ops j rest d tm fs (M.pure v) h n ↔ Fe E fn rnd Q ks ops (j + 1) rest (putT tm d v) (⟨j, [], [], n, n⟩ :: fs) h n := by
 simp only [FeV, foot_pure]
theorem fev_fail {w : String} : FeV E fn rnd Q ks ops j rest d tm fs (fail w) h n ↔ False := by
 unfold FeV
 rw [wp_iff]
 refine ⟨?_, False.elim⟩
 rintro ⟨a, s', he, _⟩
 cases he.run
structure Rd {α : Type} (m : M α) (h : Hp) (n : Nat) (ids : List Nat) (v : α) : Prop where
 r : ∀ s, At s h n → ∃ s' o, m.run s = .ok v s' ∧ s'.heap.get = s.heap.get ∧ s'.next = s.next ∧ s'.orc = none ∧ s'.rds = ids ++ s.rds ∧ s'.wrs = s.wrs ∧ s'.obs = o ++ s.obs ∧ o.all id = true
theorem Rd.pure {α : Type} (v : α) : Rd (M.pure v) h n [] v := ⟨fun s hs => ⟨s, [], rfl, rfl, rfl, hs.oc, rfl, rfl, rfl, rfl⟩⟩
theorem Rd.bind {α β : Type} {m : M α} {f : α → M β} {i1 i2 : List Nat} {a : α} {b : β} (h1 : Rd m h n i1 a) (h2 : Rd (f a) h n i2 b) : Rd (m.bind f) h n (i2 ++ i1) b := by
 refine ⟨fun s hs => ?_⟩
 obtain ⟨s1, o1, e1, a1, b1, c1, d1, w1, g1, q1⟩ := h1.r s hs
 obtain ⟨s2, o2, e2, a2, b2, c2, d2, w2, g2, q2⟩ := h2.r s1 ⟨by rw [a1, hs.hp], by rw [b1, hs.nx], c1⟩
 exact ⟨s2, o2 ++ o1, by simp only [M.bind, bindF, e1, e2], by rw [a2, a1], by rw [b2, b1], c2, by rw [d2, d1, List.append_assoc], by rw [w2, w1], by rw [g2, g1, List.append_assoc], by rw [List.all_append, q1, q2]; rfl⟩
theorem Rd.get {id : Nat} {b : Blk} (hg : h id = some b) : Rd (getB id) h n [id] b := by
 refine ⟨fun s hs => ⟨{ s with rds := id :: s.rds }, [], ?_, rfl, rfl, hs.oc, rfl, rfl, rfl, rfl⟩⟩
 have : s.heap.get id = some b := by rw [hs.hp]; exact hg
 simp only [getB, getF, this]
theorem Rd.ob {b : Bool} (hb : b = true) : Rd (ob b) h n [] () := by
 subst hb
 exact ⟨fun s hs => ⟨s, [], rfl, rfl, rfl, hs.oc, rfl, rfl, rfl, rfl⟩⟩
theorem Rd.ask (b : Bool) : Rd (ask b) h n [] b := ⟨fun s hs => ⟨s, [], by simp only [Go.Am.ask, askF, hs.oc], rfl, rfl, hs.oc, rfl, rfl, rfl, rfl⟩⟩
theorem Rd.wp {α : Type} {m : M α} {ids : List Nat} {v : α} (hr : Rd m h n ids v) : Wp m h n fun a h' n' => a = v ∧ h' = h ∧ n' = n := by
 obtain ⟨s', o, e, a, b, c, d, w, g, q⟩ := hr.r _ (at0_at h n)
 exact wp_iff.2 ⟨v, s', ⟨e, ⟨o, g, q⟩, c⟩, rfl, by rw [a]; rfl, by rw [b]; rfl⟩
theorem fev_rd {m : M AVal} {ids : List Nat} {v : AVal} (hr : Rd m h n ids v) :
  FeV E fn rnd Q ks ops j rest d tm fs m h n ↔ Fe E fn rnd Q ks ops (j + 1) rest (putT tm d v) (⟨j, ids, [], n, n⟩ :: fs) h n := by
 unfold FeV
 obtain ⟨s', o, e, a, b, c, dd, w, g, q⟩ := hr.r (at0 h n) (at0_at h n)
 have hold : ids.filter (old n n) = ids := by
  rw [List.filter_eq_self]
  intro id _
  unfold old
  by_cases hc : id < n
  ·rw [show id.blt n = true from Nat.ble_eq_true_of_le hc]; rfl
  ·rw [show n.ble id = true from Nat.ble_eq_true_of_le (by omega)]; simp
 have hf : (foot j m).run (at0 h n) = .ok (v, ⟨j, ids, [], n, n⟩) { s' with rds := s'.rds ++ (at0 h n).rds, wrs := s'.wrs ++ (at0 h n).wrs } := by
  have e' : m.run { at0 h n with rds := [], wrs := [] } = .ok v s' := e
  simp only [foot, footF, e', dd, w, b]
  simp only [at0, List.append_nil, hold, List.filter_nil]
 rw [wp_iff]
 constructor
 ·rintro ⟨r, s2, he, hq⟩
  have h0 := he.run
  rw [hf] at h0
  injection h0 with h1 h2
  subst h1; subst h2
  rw [a, b] at hq
  exact hq
 ·intro hq
  refine ⟨_, _, ⟨hf, ⟨o, g, q⟩, c⟩, ?_⟩
  rw [a, b]; exact hq
def Free (h : Hp) (n : Nat) : Prop := ∀ id, n ≤ id → h id = none
theorem Free.none : Free (fun _ => none) n := fun _ _ => rfl
theorem Free.new {b : Option Blk} (hf : Free h n) : Free (upd h n b) (n + 1) := fun id hi => by rw [upd_ne _ _ (by omega)]; exact hf id (by omega)
theorem Free.upd {b : Option Blk} {i : Nat} (hf : Free h n) (hi : i < n) : Free (upd h i b) n := fun id hid => by rw [upd_ne _ _ (by omega)]; exact hf id hid
theorem Wp.free {α : Type} {m : M α} {Q : α → Hp → Nat → Prop} (hw : Wp m h n Q) (hf : Free h n) : Wp m h n fun a h' n' => Q a h' n' ∧ n ≤ n' ∧ Free h' n' := by
 obtain ⟨s, a, s', hs, he, hq⟩ := hw
 obtain ⟨r, w, o, d⟩ := m.loc _ _ _ he.run
 have hsf : ∀ id, n ≤ id → s.heap.get id = none := fun id hi => by rw [hs.hp]; exact hf id hi
 have hn : n ≤ s'.next := by rw [← hs.nx]; exact d.next
 refine ⟨s, a, s', hs, he, hq, hn, fun id hi => ?_⟩
 have hnn : ¬ New s s' id := fun hh => by have := hh.2; omega
 rw [d.rest id (fun hw => by
  rcases d.live id hw with hh | hh
  ·exact hh (hsf id (by omega))
  ·exact hnn hh) hnn]
 exact hsf id (by omega)
theorem opv_callf {m : M AVal} {Q1 : AVal → Hp → Nat → Prop} (hf : Free h n) (hw : Wp m h n Q1) (hq : ∀ v h' n', n ≤ n' → Free h' n' → Q1 v h' n' → Ops E fn rnd Q ks ops rest (putT tm d v) h' n') : OpV E fn rnd Q ks ops rest d tm m h n :=
 wp_mono (hw.free hf) fun a h' n' hh => hq a h' n' hh.2.1 hh.2.2 hh.1
theorem fev_free {m : M AVal} {Q0 Q1 : AVal → Hp → Nat → Prop} (hf : Free h n) (hw0 : Wp m (fun _ => none) n Q0) (hw : Wp m h n Q1)
  (hq : ∀ v h' n', n ≤ n' → Free h' n' → Q1 v h' n' → Fe E fn rnd Q ks ops (j + 1) rest (putT tm d v) (⟨j, [], [], n, n'⟩ :: fs) h' n') : FeV E fn rnd Q ks ops j rest d tm fs m h n := by
 unfold FeV
 obtain ⟨v0, s0, he0, _⟩ := wp_iff.1 hw0
 obtain ⟨v, s', he, hq1, hn1, hf1⟩ := wp_iff.1 (hw.free hf)
 obtain ⟨r, w, o, dd⟩ := m.loc _ _ _ he0.run
 have hrn : ∀ id, id ∈ r → New (at0 (fun _ => none) n) s0 id := fun id hid => by
  rcases dd.rlive id hid with hh | hh
  ·exact absurd rfl hh
  ·exact hh
 have hwn : ∀ id, id ∈ w → New (at0 (fun _ => none) n) s0 id := fun id hid => by
  rcases dd.live id hid with hh | hh
  ·exact absurd rfl hh
  ·exact hh
 obtain ⟨t', e, g1, g2, g3, g4, g5, g6, g7⟩ := dd.again (at0 h n) rfl rfl (fun id hid => by
  have : New (at0 (fun _ => none) n) s0 id := by
   rcases hid with hid | hid | hid
   ·exact hrn id hid
   ·exact hwn id hid
   ·exact hid
  exact hf id this.1)
 rw [he.run] at e
 injection e with e1 e2
 subst e1; subst e2
 have old0 : ∀ l : List Nat, (∀ id, id ∈ l → New (at0 (fun _ => none) n) s0 id) → l.filter (old n s'.next) = [] := by
  intro l hl
  rw [List.filter_eq_nil_iff]
  intro id hid
  have := hl id hid
  unfold old
  have h1 : id.blt n = false := by
   cases hc : id.blt n with
   | false => rfl
   | true => have h2 := Nat.le_of_ble_eq_true hc; have h3 : n ≤ id := this.1; omega
  have h2 : s'.next.ble id = false := by
   cases hc : s'.next.ble id with
   | false => rfl
   | true => have h2 := Nat.le_of_ble_eq_true hc; have h3 := this.2; rw [g1] at h2; omega
  rw [h1, h2]; simp
 have hfoot : (foot j m).run (at0 h n) = .ok (v, ⟨j, [], [], n, s'.next⟩) { s' with rds := s'.rds ++ (at0 h n).rds, wrs := s'.wrs ++ (at0 h n).wrs } := by
  have e' : m.run { at0 h n with rds := [], wrs := [] } = .ok v s' := he.run
  simp only [foot, footF, e']
  rw [g3, g4]
  have q1 := old0 r hrn
  have q2 := old0 w hwn
  simp only [at0, List.append_nil, q1, q2]
 refine wp_iff.2 ⟨_, _, ⟨hfoot, he.obs, he.oc⟩, ?_⟩
 exact hq v _ _ hn1 hf1 hq1
theorem fev_any {m : M AVal} {Q1 : AVal → Hp → Nat → Prop} (hf : Free h n) (hw : Wp m h n Q1)
  (hq : ∀ v h' n' r w, n ≤ n' → Free h' n' → Q1 v h' n' → Fe E fn rnd Q ks ops (j + 1) rest (putT tm d v) (⟨j, r, w, n, n'⟩ :: fs) h' n') : FeV E fn rnd Q ks ops j rest d tm fs m h n := by
 unfold FeV
 obtain ⟨v, s', he, hq1, hn1, hf1⟩ := wp_iff.1 (hw.free hf)
 have e' : m.run { at0 h n with rds := [], wrs := [] } = .ok v s' := he.run
 have hfoot : (foot j m).run (at0 h n) = .ok (v, ⟨j, s'.rds.filter (old n s'.next), s'.wrs.filter (old n s'.next), n, s'.next⟩) { s' with rds := s'.rds ++ (at0 h n).rds, wrs := s'.wrs ++ (at0 h n).wrs } := by
  simp only [foot, footF, e']; rfl
 refine wp_iff.2 ⟨_, _, ⟨hfoot, he.obs, he.oc⟩, ?_⟩
 exact hq v _ _ _ _ hn1 hf1 hq1
theorem Bytes.str_rd {v : AVal} {l : List UInt8} (hb : Bytes h v l) {t t2 e : TypeId} (ht : und E t = M.pure (.slice e)) (h2 : und E t2 = M.pure .string) (he : und E e = M.pure (.int .u8)) :
  Rd (convert E t t2 v) h n (ownId v).toList (.str l) := by
 have key : convert E t t2 v = convStr E e v := by
  cases hb <;> simp only [convert, ht, h2, bind_pure]
 rw [key]
 have cells : Rd (sliceCells 1 l.length v) h n (ownId v).toList (l.map u8) := by
  cases hb with
  | nils => exact Rd.bind (m := ob (Nat.beq 0 0)) (f := fun _ => M.pure []) (Rd.ob rfl) (Rd.pure _)
  | isl g off l hf =>
   have := cellsOf_eq g l.length off (l.map u8) (by simp) (fun j hj => by rw [hf j (by simpa using hj)]; simp)
   simp only [sliceCells, sameSz, Nat.beq_refl, Nat.mul_one, this]
   exact Rd.bind (i2 := []) (Rd.ob (Nat.ble_self_eq_true _)) (Rd.pure _)
  | sl id off cap c e l hh hs hc =>
   have := Cont.sub_eq (c := c) (off := off) (l := l.map u8) (by simpa using hs) (fun j hj => by rw [hc j (by simpa using hj)]; simp)
   simp only [List.length_map] at this
   simp only [sliceCells, sameSz, Nat.beq_refl, Nat.mul_one]
   refine Rd.bind (i2 := []) (Rd.get hh) ?_
   simp only [rowK]
   refine Rd.bind (i2 := []) (Rd.ob (Nat.ble_self_eq_true _)) (Rd.bind (i2 := []) (Rd.ob (ble_of hs)) ?_)
   rw [this]; exact Rd.pure _
 simp only [convStr, he, bind_pure, isU8, hb.len]
 refine Rd.bind (i2 := []) cells (Rd.bind (i2 := []) (Rd.ob (allByte l)) ?_)
 rw [toByte_u8]; exact Rd.pure _
theorem hits_nil (f : Foot) : hits [] f = false := by unfold hits; cases f.lo.beq f.hi <;> rfl
theorem hits_low {x : List Nat} {f : Foot} (hx : ∀ id, id ∈ x → id < f.lo) : hits x f = false := by
 unfold hits
 cases f.lo.beq f.hi with
 | true => rfl
 | false =>
  simp only [List.any_eq_false]
  intro id hid
  unfold within
  have := hx id hid
  have h1 : f.lo.ble id = false := blit_of (by omega)
  rw [h1]; simp
theorem hits_same (x : List Nat) (j n : Nat) (r w : List Nat) : hits x ⟨j, r, w, n, n⟩ = false := by unfold hits; simp
theorem meets_nil (x : List Nat) : meets [] x = false := rfl
theorem meets_nil' (x : List Nat) : meets x [] = false := by unfold meets; simp
end Go.Am
set_option linter.unusedSimpArgs false
set_option linter.unusedVariables false
set_option linter.defProp false
namespace Go.Am
open Go Go.RowKit
variable {E : Env} {fn : FuncId} {rnd : Option Nat} {Q : Post0} {ks : List Kf} {tm : List AVal} {h : Hp} {n : Nat} {ops rest : List Oper} {d : Option Tmp}
theorem clash_pl (j n : Nat) (b : Foot) : clash ⟨j, [], [], n, n⟩ b = false := by
 simp only [clash, meets_nil, meets_nil', hits_nil, hits_same, Bool.or_false]
theorem clash_pr (a : Foot) (j n : Nat) : clash a ⟨j, [], [], n, n⟩ = false := by
 simp only [clash, meets_nil, meets_nil', hits_nil, hits_same, Bool.or_false]
theorem clash_rr (i j n m : Nat) (r s : List Nat) : clash ⟨i, r, [], n, n⟩ ⟨j, s, [], m, m⟩ = false := by
 simp only [clash, meets_nil, meets_nil', hits_same, Bool.or_false]
theorem clash_nn (i j a b c e : Nat) : clash ⟨i, [], [], a, b⟩ ⟨j, [], [], c, e⟩ = false := by
 simp only [clash, meets_nil, meets_nil', hits_nil, Bool.or_false]
theorem Bytes.pre {id e : Nat} {cap : Option Nat} {l m : List UInt8} (hh : h id = some (.row (.l ((l ++ m).map u8)) e)) : Bytes h (.sl id 0 l.length cap 1) l :=
 .sl id 0 cap _ e l hh (by simp [Cont.size]) (fun j hj => by rw [Nat.zero_add, Cont.at_l (by simp; omega)]; simp [hj])
theorem foot_ob {α : Type} {j : Nat} {b : Bool} {f : Unit → M α} : foot j ((ob b).bind f) = (ob b).bind fun _ => foot j (f ()) := M.ext' fun s => by cases b <;> rfl
theorem fev_ob {j : Nat} {fs : List Foot} {b : Bool} {f : Unit → M AVal} : FeV E fn rnd Q ks ops j rest d tm fs ((ob b).bind f) h n ↔ b = true ∧ FeV E fn rnd Q ks ops j rest d tm fs (f ()) h n := by
 unfold FeV; rw [foot_ob, wp_ob]
def isNils : AVal → Bool
 | .nils => true
 | _ => false
theorem Bytes.nil {v : AVal} {l : List UInt8} (hb : Bytes h v l) : nilSl v = M.pure (isNils v) ∧ (isNils v = true → l = []) := by
 cases hb <;> exact ⟨rfl, fun h => by first | rfl | cases h⟩
theorem nilSl1 : nilSl .nils = M.pure true := rfl
theorem nilSl2 (i o l : Nat) (c : Option Nat) (z : Nat) : nilSl (.sl i o l c z) = M.pure false := rfl
theorem bo_int (op : BinOp) (t : TypeId) (k : IntKind) (a : Int) (y : AVal) : binOp E op t (.int k a) y = binInt op k a y := rfl
theorem bo_str (op : BinOp) (t : TypeId) (a : List UInt8) (y : AVal) : binOp E op t (.str a) y = strK (fun b => strOp op a b) y := rfl
theorem bo_bool (op : BinOp) (t : TypeId) (b : Bool) (y : AVal) : binOp E op t (.bool b) y = binOther E op t (.bool b) y := rfl
theorem bo_blit (op : BinOp) (t : TypeId) (b : Bool) (y : AVal) : binOp E op t (.blit b) y = binOther E op t (.blit b) y := rfl
theorem bo_nilp (op : BinOp) (t : TypeId)  (y : AVal) : binOp E op t (.nilp ) y = binOther E op t (.nilp ) y := rfl
theorem bo_nils (op : BinOp) (t : TypeId)  (y : AVal) : binOp E op t (.nils ) y = binOther E op t (.nils ) y := rfl
theorem bo_nilm (op : BinOp) (t : TypeId)  (y : AVal) : binOp E op t (.nilm ) y = binOther E op t (.nilm ) y := rfl
theorem bo_nilf (op : BinOp) (t : TypeId)  (y : AVal) : binOp E op t (.nilf ) y = binOther E op t (.nilf ) y := rfl
theorem bo_ptr (op : BinOp) (t : TypeId) (i o : Nat) (y : AVal) : binOp E op t (.ptr i o) y = binOther E op t (.ptr i o) y := rfl
theorem bo_sl (op : BinOp) (t : TypeId) (i o n : Nat) (c : Option Nat) (s : Nat) (y : AVal) : binOp E op t (.sl i o n c s) y = binOther E op t (.sl i o n c s) y := rfl
theorem bo_ip (op : BinOp) (t : TypeId) (f : Nat → AVal) (n o : Nat) (y : AVal) : binOp E op t (.ip f n o) y = binOther E op t (.ip f n o) y := rfl
theorem bo_isl (op : BinOp) (t : TypeId) (f : Nat → AVal) (s o n : Nat) (y : AVal) : binOp E op t (.isl f s o n) y = binOther E op t (.isl f s o n) y := rfl
theorem bo_fn (op : BinOp) (t : TypeId) (f : Fn) (a b : List AVal) (y : AVal) : binOp E op t (.fn f a b) y = binOther E op t (.fn f a b) y := rfl
theorem bo_map (op : BinOp) (t : TypeId) (i : Nat) (y : AVal) : binOp E op t (.map i) y = binOther E op t (.map i) y := rfl
theorem bo_agg (op : BinOp) (t : TypeId) (l : List AVal) (y : AVal) : binOp E op t (.agg l) y = binOther E op t (.agg l) y := rfl
def bor := (And.intro @bo_int (And.intro @bo_str (And.intro @bo_bool (And.intro @bo_blit (And.intro @bo_nilp (And.intro @bo_nils (And.intro @bo_nilm (And.intro @bo_nilf (And.intro @bo_ptr (And.intro @bo_sl (And.intro @bo_ip (And.intro @bo_isl (And.intro @bo_fn (And.intro @bo_map @bo_agg))))))))))))))
theorem Bytes.eqNil {v : AVal} {l : List UInt8} (hb : Bytes h v l) {t e : TypeId} (ht : und E t = M.pure (.slice e)) : binOp E .eql t v .nils = M.pure (.bool (isNils v)) := by
 have key : ∀ x y, equal E 100 t x y = (nilSl x).bind fun a => (nilSl y).bind fun b => match a || b with | true => M.pure (a && b) | false => fail "equal: slices" := by
  intro x y
  unfold equal
  rw [ht, bind_pure]
  rfl
 have k2 : binOther E .eql t v .nils = M.pure (.bool (isNils v)) := by
  unfold binOther equalTop
  simp only
  rw [key, hb.nil.1]
  simp only [bind_pure, nilSl1, Bool.or_true, Bool.and_true]
 cases hb <;> exact k2
end Go.Am
set_option linter.unusedSimpArgs false
set_option linter.unusedVariables false
set_option linter.defProp false
namespace Go.Am
open Go Go.RowKit
variable {E : Env} {fn : FuncId} {rnd : Option Nat} {Q : Post0} {ks : List Kf} {tm : List AVal} {h : Hp} {n : Nat} {ops rest : List Oper} {d : Option Tmp}
theorem opv_rd {m : M AVal} {ids : List Nat} {v : AVal} (hr : Rd m h n ids v) : OpV E fn rnd Q ks ops rest d tm m h n ↔ Ops E fn rnd Q ks ops rest (putT tm d v) h n := opv_det hr.wp _ _ _ _ _ _ _ _ _
def subOf (lo hi : Nat) : AVal → AVal
  | .isl g sz off len => .isl g sz (off + lo * sz) (hi - lo)
  | .sl id off len cap sz => .sl id (off + lo * sz) (hi - lo) (match cap with | some c => some (c - lo) | none => none) sz
  | v => v
theorem Bytes.sub {v : AVal} {l : List UInt8} (hb : Bytes h v l) {lo hi : Nat} (h1 : lo ≤ hi) (h2 : hi ≤ l.length) : Bytes h (subOf lo hi v) ((l.take hi).drop lo) := by
  have hlen : ((l.take hi).drop lo).length = hi - lo := by simp; omega
  cases hb with
  | nils =>
    have : hi = 0 := by simpa using h2
    subst this
    have : lo = 0 := by omega
    subst this
    exact .nils
  | isl f off l hf =>
    have := Bytes.isl (h := h) f (off + lo * 1) ((l.take hi).drop lo) (fun j hj => by
      rw [hlen] at hj
      have := hf (lo + j) (by omega)
      rw [Nat.mul_one, Nat.add_assoc, this]
      simp)
    rw [hlen] at this
    exact this
  | sl id off cap c e l hh hs hc =>
    have := Bytes.sl (h := h) id (off + lo * 1) (match cap with | some c => some (c - lo) | none => none) c e ((l.take hi).drop lo) hh (by rw [hlen]; omega) (fun j hj => by
      rw [hlen] at hj
      have := hc (lo + j) (by omega)
      rw [Nat.mul_one, Nat.add_assoc, this]
      simp)
    rw [hlen] at this
    exact this
theorem sub_id (lo hi : Nat) (v : AVal) : ownId (subOf lo hi v) = ownId v := by cases v <;> rfl
theorem Below0.sub {v : AVal} (hv : Below0 n v) (lo hi : Nat) : Below0 n (subOf lo hi v) := by cases v <;> exact hv
def Roomy : AVal → Prop
  | .sl _ _ len (some c) _ => len ≤ c
  | _ => True
theorem Bytes.tail_rd {v : AVal} {l : List UInt8} (hb : Bytes h v l) {t e : TypeId} (ht : und E t = M.pure (.slice e)) (he : sizeOf E e = M.pure 1) {k1 : IntKind} {lo : Int} (h0 : 0 ≤ lo) (h1 : lo ≤ l.length) :
    Rd (slice E t v (some (.int k1 lo)) none none) h n [] (subOf lo.toNat l.length v) := by
  cases hb with
  | nils =>
    have e2 : lo = 0 := by simp at h1; omega
    subst e2
    simp only [slice, ht, he, bind_pure, bound, intK, bind_assoc]
    exact Rd.bind (i2 := []) (Rd.ob (by simp)) (Rd.pure _)
  | isl f off l hf =>
    simp only [slice, ht, he, bind_pure, bound, intK, bind_assoc, sameSz, show (Nat.beq 1 1) = true from rfl]
    exact Rd.bind (i2 := []) (Rd.ob (by simp; omega)) (Rd.pure _)
  | sl id off cap c e l hh hs hc =>
    cases cap with
    | none =>
      simp only [slice, roomOf, ht, he, bind_pure, bound, intK, bind_assoc, sameSz, show (Nat.beq 1 1) = true from rfl]
      exact Rd.bind (i2 := []) (Rd.ob (by simp; omega)) (Rd.pure _)
    | some cc =>
      simp only [slice, ht, he, bind_pure, bound, intK, bind_assoc, sameSz, show (Nat.beq 1 1) = true from rfl]
      exact Rd.bind (i2 := []) (Rd.ob (by simp; omega)) (Rd.pure _)
theorem Roomy.sub {v : AVal} {l : List UInt8} (hb : Bytes h v l) (hr : Roomy v) {lo hi : Nat} (h1 : lo ≤ hi) (h2 : hi ≤ l.length) : Roomy (subOf lo hi v) := by
  cases hb with
  | nils => trivial
  | isl f off l hf => trivial
  | sl id off cap c e l hh hs hc =>
    cases cap with
    | none => trivial
    | some cc =>
      have : l.length ≤ cc := hr
      show hi - lo ≤ cc - lo
      omega
theorem or_gen (x y : Nat) (k : Nat) (hx : x < 2 ^ k) (hy : y < 256) (hk : k ≤ 24) : IntKind.i64.wrap (((BitVec.ofInt IntKind.i64.bits (x : Int)) ||| (BitVec.ofInt IntKind.i64.bits ((y * 2 ^ k : Nat) : Int))).toNat : Int) = ((x + y * 2 ^ k : Nat) : Int) := by
  have h1 : 2 ^ k ≤ 2 ^ 24 := Nat.pow_le_pow_right (by decide) hk
  have h2 : y * 2 ^ k ≤ 255 * 2 ^ 24 := Nat.mul_le_mul (by omega) h1
  have hb : IntKind.i64.bits = 64 := rfl
  rw [BitVec.toNat_or, BitVec.ofInt_natCast, BitVec.ofInt_natCast, BitVec.toNat_ofNat, BitVec.toNat_ofNat, hb, Nat.mod_eq_of_lt (by omega), Nat.mod_eq_of_lt (by omega), Nat.mul_comm y, Nat.or_comm, ← Nat.two_pow_add_eq_or_of_lt hx]
  rw [Nat.mul_comm y] at h2
  rw [w64 (by omega) (by omega), Nat.add_comm]
theorem or0 (y : Int) (h : 0 ≤ y) (hy : y < 256) : IntKind.i64.wrap (((BitVec.ofInt IntKind.i64.bits 0) ||| (BitVec.ofInt IntKind.i64.bits y)).toNat : Int) = y := by
  obtain ⟨m, rfl⟩ : ∃ m : Nat, y = m := ⟨y.toNat, by omega⟩
  have := or_gen 0 m 0 (by decide) (by omega) (by decide)
  simpa using this
theorem or8 (x y : Int) (hx : 0 ≤ x) (hx2 : x < 256) (h : 0 ≤ y) (hy : y < 256) : IntKind.i64.wrap (((BitVec.ofInt IntKind.i64.bits x) ||| (BitVec.ofInt IntKind.i64.bits (y * 256))).toNat : Int) = x + y * 256 := by
  obtain ⟨m, rfl⟩ : ∃ m : Nat, y = m := ⟨y.toNat, by omega⟩
  obtain ⟨k, rfl⟩ : ∃ k : Nat, x = k := ⟨x.toNat, by omega⟩
  have := or_gen k m 8 (by omega) (by omega) (by decide)
  simpa using this
theorem or16 (x y : Int) (hx : 0 ≤ x) (hx2 : x < 65536) (h : 0 ≤ y) (hy : y < 256) : IntKind.i64.wrap (((BitVec.ofInt IntKind.i64.bits x) ||| (BitVec.ofInt IntKind.i64.bits (y * 65536))).toNat : Int) = x + y * 65536 := by
  obtain ⟨m, rfl⟩ : ∃ m : Nat, y = m := ⟨y.toNat, by omega⟩
  obtain ⟨k, rfl⟩ : ∃ k : Nat, x = k := ⟨x.toNat, by omega⟩
  have := or_gen k m 16 (by omega) (by omega) (by decide)
  simpa using this
theorem or24 (x y : Int) (hx : 0 ≤ x) (hx2 : x < 16777216) (h : 0 ≤ y) (hy : y < 256) : IntKind.i64.wrap (((BitVec.ofInt IntKind.i64.bits x) ||| (BitVec.ofInt IntKind.i64.bits (y * 16777216))).toNat : Int) = x + y * 16777216 := by
  obtain ⟨m, rfl⟩ : ∃ m : Nat, y = m := ⟨y.toNat, by omega⟩
  obtain ⟨k, rfl⟩ : ∃ k : Nat, x = k := ⟨x.toNat, by omega⟩
  have := or_gen k m 24 (by omega) (by omega) (by decide)
  simpa using this
theorem pw0 : (2 : Int) ^ (min 0 IntKind.i64.bits) = 1 := by decide
theorem pw8 : (2 : Int) ^ (min 8 IntKind.i64.bits) = 256 := by decide
theorem pw16 : (2 : Int) ^ (min 16 IntKind.i64.bits) = 65536 := by decide
theorem pw24 : (2 : Int) ^ (min 24 IntKind.i64.bits) = 16777216 := by decide
theorem Bytes.keep {h h' : Hp} {v : AVal} {l : List UInt8} (hb : Bytes h v l) (hk : ∀ j, ownId v = some j → h' j = h j) : Bytes h' v l := by
  cases hb with
  | nils => exact .nils
  | isl f off l hf => exact .isl f off l hf
  | sl id off cap c e l hh hs hc => exact .sl id off cap c e l (by rw [hk id rfl]; exact hh) hs hc
theorem ld_ptr (t : TypeId) (id off : Nat) : load E t (.ptr id off) = (ti E t).bind fun i => match aggB i.desc with | true => (readCells (.ptr id off) i.size).bind fun cs => M.pure (.agg cs) | false => (readCells (.ptr id off) 1).bind oneOf := rfl
theorem ld_ip (t : TypeId) (f : Nat → AVal) (n off : Nat) : load E t (.ip f n off) = (ti E t).bind fun i => match aggB i.desc with | true => (readCells (.ip f n off) i.size).bind fun cs => M.pure (.agg cs) | false => (readCells (.ip f n off) 1).bind oneOf := rfl
theorem st_ptr (t : TypeId) (id off : Nat) (v : AVal) : doStore E t (.ptr id off) v = (store E t (.ptr id off) v).bind fun _ => M.pure undef := rfl
theorem sto_ptr (t : TypeId) (id off : Nat) (v : AVal) : store E t (.ptr id off) v = (ti E t).bind fun i => match v.cells.length.beq i.size with | true => writeCells (.ptr id off) v.cells | false => fail "store: size" := rfl
theorem ia_ptr (t : TypeId) (id off : Nat) (k : IntKind) (i : Int) : indexAddr E t (.ptr id off) (.int k i) = (und E t).bind fun d => match d with
    | .array len e => (sizeOf E e).bind fun n => (idx i len).bind fun j => moved (j * n) (.ptr id off)
    | .slice e => (sizeOf E e).bind fun n => fail "slice expected"
    | _ => fail "indexAddr" := rfl
theorem ia_sl (t : TypeId) (id off len : Nat) (cap : Option Nat) (sz : Nat) (k : IntKind) (i : Int) : indexAddr E t (.sl id off len cap sz) (.int k i) = (und E t).bind fun d => match d with
    | .array len e => (sizeOf E e).bind fun n => (idx i len).bind fun j => fail "address expected"
    | .slice e => (sizeOf E e).bind fun n => match n.beq sz with
          | true => (idx i len).bind fun j => M.pure (.ptr id (off + j * n))
          | false => fail "indexAddr: size"
    | _ => fail "indexAddr" := rfl
def memr := And.intro @ld_ptr (And.intro @ld_ip (And.intro @st_ptr (And.intro @sto_ptr (And.intro @ia_ptr @ia_sl))))
end Go.Am
set_option linter.unusedSimpArgs false
set_option linter.unusedVariables false
set_option linter.defProp false
namespace Go.Am
open Go
def otherB : TypeDesc → Bool
 | .bool | .int _ | .string | .slice _ | .struct _ | .array _ _ => false
 | _ => true
def cut (f : Nat → AVal) (o n : Nat) : List AVal := (List.range n).map fun j => f (o + j)
inductive Arg (P : Program) : TypeId → List AVal → Prop
 | bool (t : TypeId) (b : Bool) (ht : P.underlying t = some .bool) : Arg P t [.bool b]
 | int (t : TypeId) (k : IntKind) (n : Int) (ht : P.underlying t = some (.int k)) (hw : (Lit.int k n).wf = true) : Arg P t [.int k n]
 | str (t : TypeId) (l : List UInt8) (ht : P.underlying t = some .string) (hl : l.length ≤ maxLen) : Arg P t [.str l]
 | nils (t e : TypeId) (ht : P.underlying t = some (.slice e)) : Arg P t [.nils]
 | isl (t e : TypeId) (f : Nat → AVal) (len : Nat) (ht : P.underlying t = some (.slice e)) (hl : len ≤ maxLen) (he : ∀ i, i < len → Arg P e (cut f (i * P.cellsOf e) (P.cellsOf e))) : Arg P t [.isl f (P.cellsOf e) 0 len]
 | zero (t e : TypeId) (ht : P.underlying t = some (.slice e)) (hz : P.cellsOf e = 0) : Arg P t [.junk]
 | struct (t : TypeId) (fs : Array Field) (vs : List AVal) (ht : P.underlying t = some (.struct fs)) (hl : vs.length = P.cellsOf t) (he : ∀ (i : Nat) (fd : Field), fs[i]? = some fd → Arg P fd.type ((vs.drop fd.offset).take (P.cellsOf fd.type))) : Arg P t vs
 | array (t : TypeId) (n : Nat) (e : TypeId) (vs : List AVal) (ht : P.underlying t = some (.array n e)) (hl : vs.length = P.cellsOf t) (he : ∀ i, i < n → Arg P e ((vs.drop (i * P.cellsOf e)).take (P.cellsOf e))) : Arg P t vs
 | other (t : TypeId) (vs : List AVal) (d : TypeDesc) (ht : P.underlying t = some d) (hd : otherB d = true) : Arg P t vs
variable {ρ : Ren} {m : Mem}
theorem RV.app {a b : List AVal} {x y : List Value} (h : RV ρ m a x) (h' : RV ρ m b y) : RV ρ m (a ++ b) (x ++ y) := by
 induction h with
 | nil => exact h'
 | cons h t ih => exact .cons h ih
theorem RV.get {a : List AVal} {x : List Value} (h : RV ρ m a x) : ∀ (j : Nat) (v : AVal) (z : Value), a[j]? = some v → x[j]? = some z → R ρ m v z := by
 induction h with
 | nil => intro j v z h; simp at h
 | cons h t ih =>
  intro j v z hv hz
  cases j with
  | zero => simp at hv hz; subst hv; subst hz; exact h
  | succ j => exact ih j v z (by simpa using hv) (by simpa using hz)
theorem rv_junk (x : List Value) : RV ρ m (x.map fun _ => .junk) x := by
 induction x with
 | nil => exact .nil
 | cons a x ih => exact .cons (.junk a) ih
theorem join_parts : ∀ (L : List (Nat × (List AVal → Prop))) (cs : List Value), cs.length = (L.map (·.1)).sum →
  (∀ (i : Nat) (q : Nat × (List AVal → Prop)), L[i]? = some q → ∃ vs, RV ρ m vs ((cs.drop ((L.take i).map (·.1)).sum).take q.1) ∧ q.2 vs) →
  ∃ vs, RV ρ m vs cs ∧ ∀ (i : Nat) (q : Nat × (List AVal → Prop)), L[i]? = some q → q.2 ((vs.drop ((L.take i).map (·.1)).sum).take q.1) := by
 intro L
 induction L with
 | nil =>
  intro cs hl _
  have : cs = [] := by simpa using hl
  subst this
  exact ⟨[], .nil, fun i q h => by simp at h⟩
 | cons p L ih =>
  intro cs hl h
  simp only [List.map_cons, List.sum_cons] at hl
  obtain ⟨v1, r1, p1⟩ := h 0 p rfl
  simp only [List.take_zero, List.map_nil, List.sum_nil, List.drop_zero] at r1
  obtain ⟨v2, r2, p2⟩ := ih (cs.drop p.1) (by rw [List.length_drop]; omega) (fun i q hq => by
   obtain ⟨vs, a, b⟩ := h (i + 1) q (by simpa using hq)
   refine ⟨vs, ?_, b⟩
   rw [List.drop_drop]
   simpa [List.take_succ_cons] using a)
  have l1 : v1.length = p.1 := by rw [r1.length, List.length_take]; omega
  refine ⟨v1 ++ v2, by have := r1.app r2; rwa [List.take_append_drop] at this, fun i q hq => ?_⟩
  cases i with
  | zero =>
   injection hq with hq
   subst hq
   simp only [List.take_zero, List.map_nil, List.sum_nil, List.drop_zero]
   rw [← l1, List.take_left]; exact p1
  | succ i =>
   have := p2 i q (by simpa using hq)
   simp only [List.take_succ_cons, List.map_cons, List.sum_cons]
   rw [← List.drop_drop, ← l1, List.drop_left]; exact this
theorem sum_rep (n k : Nat) : (List.replicate n k).sum = n * k := by
 induction n with
 | zero => simp
 | succ n ih => rw [List.replicate_succ, List.sum_cons, ih, Nat.succ_mul]; omega
theorem add_plain' (b off i : Nat) : (Addr.add ⟨b, off, none⟩ i) = ⟨b, off + i, none⟩ := by
 unfold Addr.add
 split
 ·rename_i h; subst h; rfl
 ·rfl
theorem oldMem_cell {w : World} {b off : Nat} {v : Value} (h : w.cell? ⟨b, off, none⟩ = some v) : (oldMem w).cell b off = some v := by
 unfold Mem.cell oldMem
 simp only [World.cell?] at h
 revert h
 cases w.heap[b]? with
 | none => intro h; cases h
 | some o => cases o <;> simp
section
variable {H : Type} {enc : TypeId × Value → H} {P : Program} {w : World} {spare : Nat → Bool} {held : Bool}
theorem arg_of_trod (hlaid : laidOutB P = true) : ∀ (fuel : Nat) (t : TypeId) (cs : List Value) (x : DataW H × List MemPlace), isVar P t = true → DataW.trod enc P w 0 spare held fuel t cs = some x →
  ∃ vs, RV (fun _ => none) (oldMem w) vs cs ∧ Arg P t vs := by
 intro fuel
 induction fuel with
 | zero => intro t cs x _ h; simp [DataW.trod] at h
 | succ n ih =>
  intro t cs x hv h
  have hfine : rowFine P t = true := by
   have h1 : (List.range P.types.size).all (rowFine P) = true := by
    unfold laidOutB at hlaid
    simp only [Bool.and_eq_true] at hlaid
    exact hlaid.1.1
   rw [List.all_eq_true] at h1
   refine h1 t ?_
   unfold isVar at hv
   simp only [Bool.and_eq_true, decide_eq_true_eq] at hv
   exact List.mem_range.2 hv.1
  unfold rowFine at hfine
  rw [hv] at hfine
  cases hd : P.underlying t with
  | none => unfold isVar at hv; rw [hd] at hv; simp [kindOk] at hv
  | some d =>
   rw [hd] at hfine
   cases d
   case bool =>
    obtain ⟨b, rfl, _⟩ := DataW.trod_bool hd h
    exact ⟨_, .cons (.bool b) .nil, .bool t b hd⟩
   case int k =>
    obtain ⟨z, rfl, _, hw⟩ := DataW.trod_int hd h
    exact ⟨_, .cons (.int k z) .nil, .int t k z hd hw⟩
   case string =>
    obtain ⟨s, rfl, _, hs⟩ := DataW.trod_string hd h
    exact ⟨[.str s.data.toList], .cons (.str s.data.toList) .nil, .str t _ hd (by simpa using hs)⟩
   case struct fs =>
    obtain ⟨xs, n', e1, _, hl, hxl, he⟩ := DataW.trod_struct hd h
    injection e1 with e1
    subst e1
    simp only [Bool.not_true, Bool.false_or, Bool.and_eq_true, beq_iff_eq] at hfine
    obtain ⟨⟨f1, f2⟩, f3⟩ := hfine
    rw [List.all_eq_true] at f1 f3
    have off : ∀ (i : Nat) (fd : Field), fs.toList[i]? = some fd → fd.offset = ((fs.toList.take i).map fun f => P.cellsOf f.type).sum := fun i fd hi => by
     have := f3 i (List.mem_range.2 (List.getElem?_eq_some_iff.1 hi).1)
     rw [hi] at this
     exact beq_iff_eq.1 this
    obtain ⟨vs, r, hp⟩ := join_parts (ρ := fun _ => none) (m := oldMem w) (fs.toList.map fun f => (P.cellsOf f.type, Arg P f.type)) cs (by rw [hl, f2, List.map_map]; rfl) (fun i q hq => by
     rw [List.getElem?_map, Option.map_eq_some_iff] at hq
     obtain ⟨fd, hfd, rfl⟩ := hq
     have hxi : i < xs.length := by rw [hxl]; simpa using (List.getElem?_eq_some_iff.1 hfd).1
     have h1 := he i fd (by simpa using hfd)
     rw [List.getElem?_eq_getElem hxi] at h1
     obtain ⟨vs, a, b⟩ := ih fd.type _ _ (f1 fd (List.mem_of_getElem? hfd)) h1
     refine ⟨vs, ?_, b⟩
     rw [List.map_take, List.map_map, ← List.map_take]
     rw [off i fd hfd] at a
     exact a)
    refine ⟨vs, r, .struct t fs vs hd (by rw [r.length, hl]) fun i fd hi => ?_⟩
    have hi' : fs.toList[i]? = some fd := by simpa using hi
    have := hp i (P.cellsOf fd.type, Arg P fd.type) (by rw [List.getElem?_map, hi']; rfl)
    rw [List.map_take, List.map_map, ← List.map_take] at this
    rw [off i fd hi']
    exact this
   case array k e =>
    obtain ⟨xs, n', e1, _, hl, hxl, he⟩ := DataW.trod_array hd h
    injection e1 with e1
    subst e1
    simp only [Bool.not_true, Bool.false_or, Bool.and_eq_true, beq_iff_eq] at hfine
    obtain ⟨f1, f2⟩ := hfine
    have hsum : ∀ i, i ≤ k → (((List.replicate k (P.cellsOf e, Arg P e)).take i).map (·.1)).sum = i * P.cellsOf e := fun i hi => by
     rw [List.take_replicate, List.map_replicate, sum_rep, Nat.min_eq_left hi]
    obtain ⟨vs, r, hp⟩ := join_parts (ρ := fun _ => none) (m := oldMem w) (List.replicate k (P.cellsOf e, Arg P e)) cs (by rw [hl, f2, List.map_replicate, sum_rep]) (fun i q hq => by
     rw [List.getElem?_replicate] at hq
     split at hq
     ·rename_i hik
      injection hq with hq
      subst hq
      have h1 := he i hik
      rw [List.getElem?_eq_getElem (by omega)] at h1
      obtain ⟨vs, a, b⟩ := ih e _ _ f1 h1
      refine ⟨vs, ?_, b⟩
      rw [hsum i (by omega)]
      exact a
     ·cases hq)
    refine ⟨vs, r, .array t k e vs hd (by rw [r.length, hl]) fun i hi => ?_⟩
    have := hp i (P.cellsOf e, Arg P e) (by rw [List.getElem?_replicate, if_pos hi])
    rwa [hsum i (by omega)] at this
   case slice e =>
    simp only [Bool.not_true, Bool.false_or, Bool.and_eq_true, beq_iff_eq] at hfine
    rcases DataW.trod_slice hd h with ⟨rfl, _⟩ | ⟨a, len, cap, elems, rest, n', e1, rfl, _, hb, hl, hm, hlen, hel, _, _⟩
    ·exact ⟨_, .cons .nils .nil, .nils t e hd⟩
    injection e1 with e1
    subst e1
    by_cases hz : P.cellsOf e = 0
    ·exact ⟨_, .cons (.junk _) .nil, .zero t e hd hz⟩
    have each : ∀ i, ∃ vs, i < len → vs.length = P.cellsOf e ∧ Arg P e vs ∧ ∃ cs', w.cells? 0 (a.add (i * P.cellsOf e)) (P.cellsOf e) = some cs' ∧ RV (fun _ => none) (oldMem w) vs cs' := fun i => by
     by_cases hi : i < len
     ·have h1 := hel i hi
      rw [List.getElem?_eq_getElem (by omega), Option.bind_eq_some_iff] at h1
      obtain ⟨cs', c1, c2⟩ := h1
      obtain ⟨vs, r, g⟩ := ih e cs' _ hfine.1 c2
      exact ⟨vs, fun _ => ⟨by rw [r.length, (World.cells?_some c1).2.1], g, cs', c1, r⟩⟩
     ·exact ⟨[], fun q => absurd q hi⟩
    obtain ⟨vs, hvs⟩ := Classical.axiomOfChoice each
    have hcut : ∀ i, i < len → cut (fun j => (vs (j / P.cellsOf e)).getD (j % P.cellsOf e) .junk) (i * P.cellsOf e) (P.cellsOf e) = vs i := fun i hi => by
     obtain ⟨l1, _⟩ := hvs i hi
     refine List.ext_getElem (by simp [cut, l1]) fun j h1 h2 => ?_
     simp only [cut, List.getElem_map, List.getElem_range]
     have hj : j < P.cellsOf e := by omega
     rw [show (i * P.cellsOf e + j) / P.cellsOf e = i by rw [Nat.mul_comm, Nat.mul_add_div (by omega), Nat.div_eq_of_lt hj, Nat.add_zero], show (i * P.cellsOf e + j) % P.cellsOf e = j by rw [Nat.mul_comm, Nat.mul_add_mod, Nat.mod_eq_of_lt hj], List.getD_eq_getElem?_getD, List.getElem?_eq_getElem h2, Option.getD_some]
    refine ⟨[.isl (fun j => (vs (j / P.cellsOf e)).getD (j % P.cellsOf e) .junk) (P.cellsOf e) 0 len], .cons ?_ .nil, .isl t e _ len hd (by omega) fun i hi => by rw [hcut i hi]; exact (hvs i hi).2.1⟩
    by_cases h0 : len = 0
    ·subst h0
     exact .isl0 _ _ _ _ a
    have hspot : a.spot = none := by
     obtain ⟨_, _, cs', c1, _⟩ := hvs 0 (by omega)
     obtain ⟨_, c2, c3⟩ := World.cells?_some c1
     have c4 := c3 0 (by omega)
     rw [List.getElem?_eq_getElem (by omega), Nat.zero_mul] at c4
     have e0 : (a.add 0).add 0 = a := by unfold Addr.add; rfl
     rw [e0] at c4
     exact World.cell?_spot c4
    obtain ⟨b, off, spot⟩ := a
    simp only at hspot
    subst hspot
    have hdm : ∀ j, j < 0 + len * P.cellsOf e → j / P.cellsOf e < len ∧ j % P.cellsOf e < P.cellsOf e ∧ j = j / P.cellsOf e * P.cellsOf e + j % P.cellsOf e := fun j hj => by
     refine ⟨Nat.div_lt_of_lt_mul (by rw [Nat.mul_comm]; omega), Nat.mod_lt _ (by omega), ?_⟩
     have := Nat.div_add_mod j (P.cellsOf e)
     rw [Nat.mul_comm] at this
     exact this.symm
    refine .isl _ _ 0 len b off cap (fun j => ((w.cells? 0 (Addr.add ⟨b, off, none⟩ (j / P.cellsOf e * P.cellsOf e)) (P.cellsOf e)).getD []).getD (j % P.cellsOf e) (.bool false)) (fun j hj => ?_) (fun j hj => ?_) hl
    ·obtain ⟨d1, d2, d3⟩ := hdm j hj
     obtain ⟨_, _, cs', c1, _⟩ := hvs _ d1
     rw [c1]
     obtain ⟨_, c2, c3⟩ := World.cells?_some c1
     have c4 := c3 _ d2
     rw [add_plain', add_plain', List.getElem?_eq_getElem (by omega)] at c4
     refine oldMem_cell (b := b) (off := off + j) ?_
     rw [show off + j = off + j / P.cellsOf e * P.cellsOf e + j % P.cellsOf e by omega, c4]
     rw [Option.getD_some, List.getD_eq_getElem?_getD, List.getElem?_eq_getElem (by omega), Option.getD_some]
    ·obtain ⟨d1, d2, d3⟩ := hdm j hj
     obtain ⟨l1, _, cs', c1, r⟩ := hvs _ d1
     rw [c1, Option.getD_some]
     obtain ⟨_, c2, _⟩ := World.cells?_some c1
     rw [List.getD_eq_getElem?_getD, List.getElem?_eq_getElem (by omega), Option.getD_some]
     refine r.get (j % P.cellsOf e) _ _ (List.getElem?_eq_getElem (by omega)) ?_
     rw [List.getD_eq_getElem?_getD, List.getElem?_eq_getElem (by omega), Option.getD_some]
   all_goals exact ⟨_, rv_junk cs, .other t _ _ hd rfl⟩
end
theorem Arg.slice_inv {P : Program} {t e : TypeId} {vs : List AVal} (ht : P.underlying t = some (.slice e)) (hz : 0 < P.cellsOf e) (ha : Arg P t vs) :
  vs = [.nils] ∨ ∃ f len, vs = [.isl f (P.cellsOf e) 0 len] ∧ len ≤ maxLen ∧ ∀ i, i < len → Arg P e (cut f (i * P.cellsOf e) (P.cellsOf e)) := by
 cases ha with
 | nils t e' h => exact .inl rfl
 | isl t e' f len h hl hx => rw [ht] at h; injection h with h; injection h with h; subst h; exact .inr ⟨f, len, rfl, hl, hx⟩
 | zero t e' h hz => rw [ht] at h; injection h with h; injection h with h; subst h; omega
 | bool t b h2 => rw [ht] at h2; cases h2
 | int t b k h2 _ => rw [ht] at h2; cases h2
 | str t b h2 _ => rw [ht] at h2; cases h2
 | struct t e f h2 => rw [ht] at h2; cases h2
 | array t e f g h2 => rw [ht] at h2; cases h2
 | other t e d h2 h3 => rw [ht] at h2; injection h2 with h2; subst h2; cases h3
theorem Arg.int_inv {P : Program} {t : TypeId} {k : IntKind} {vs : List AVal} (ht : P.underlying t = some (.int k)) (ha : Arg P t vs) : ∃ z, vs = [.int k z] ∧ (Lit.int k z).wf = true := by
 cases ha with
 | int t k z h2 hw => rw [ht] at h2; injection h2 with h2; injection h2 with h2; subst h2; exact ⟨z, rfl, hw⟩
 | bool t b h2 => rw [ht] at h2; cases h2
 | str t b h2 _ => rw [ht] at h2; cases h2
 | nils t e h2 => rw [ht] at h2; cases h2
 | isl t e f len h2 => rw [ht] at h2; cases h2
 | zero t e h2 => rw [ht] at h2; cases h2
 | struct t e f h2 => rw [ht] at h2; cases h2
 | array t e f g h2 => rw [ht] at h2; cases h2
 | other t e d h2 h3 => rw [ht] at h2; injection h2 with h2; subst h2; cases h3
theorem Arg.bool_inv {P : Program} {t : TypeId} {vs : List AVal} (ht : P.underlying t = some .bool) (ha : Arg P t vs) : ∃ z, vs = [.bool z] := by
 cases ha with
 | int t k z h2 hw => rw [ht] at h2; cases h2
 | bool t b h2 => exact ⟨b, rfl⟩
 | str t b h2 _ => rw [ht] at h2; cases h2
 | nils t e h2 => rw [ht] at h2; cases h2
 | isl t e f len h2 => rw [ht] at h2; cases h2
 | zero t e h2 => rw [ht] at h2; cases h2
 | struct t e f h2 => rw [ht] at h2; cases h2
 | array t e f g h2 => rw [ht] at h2; cases h2
 | other t e d h2 h3 => rw [ht] at h2; injection h2 with h2; subst h2; cases h3
theorem Arg.str_inv {P : Program} {t : TypeId} {vs : List AVal} (ht : P.underlying t = some .string) (ha : Arg P t vs) : ∃ l, vs = [.str l] ∧ l.length ≤ maxLen := by
 cases ha with
 | int t k z h2 hw => rw [ht] at h2; cases h2
 | bool t b h2 => rw [ht] at h2; cases h2
 | str t b h2 hl => exact ⟨b, rfl, hl⟩
 | nils t e h2 => rw [ht] at h2; cases h2
 | isl t e f len h2 => rw [ht] at h2; cases h2
 | zero t e h2 => rw [ht] at h2; cases h2
 | struct t e f h2 => rw [ht] at h2; cases h2
 | array t e f g h2 => rw [ht] at h2; cases h2
 | other t e d h2 h3 => rw [ht] at h2; injection h2 with h2; subst h2; cases h3
theorem Arg.struct_inv {P : Program} {t : TypeId} {fs : Array Field} {vs : List AVal} (ht : P.underlying t = some (.struct fs)) (ha : Arg P t vs) : vs.length = P.cellsOf t ∧ ∀ (i : Nat) (fd : Field), fs[i]? = some fd → Arg P fd.type ((vs.drop fd.offset).take (P.cellsOf fd.type)) := by
 cases ha with
 | int t k z h2 hw => rw [ht] at h2; cases h2
 | bool t b h2 => rw [ht] at h2; cases h2
 | str t b h2 hl => rw [ht] at h2; cases h2
 | nils t e h2 => rw [ht] at h2; cases h2
 | isl t e f len h2 => rw [ht] at h2; cases h2
 | zero t e h2 => rw [ht] at h2; cases h2
 | struct t fs vs h2 hl he => rw [ht] at h2; injection h2 with h2; injection h2 with h2; subst h2; exact ⟨hl, he⟩
 | array t e f g h2 => rw [ht] at h2; cases h2
 | other t e d h2 h3 => rw [ht] at h2; injection h2 with h2; subst h2; cases h3
theorem cut_one (f : Nat → AVal) (o : Nat) : cut f o 1 = [f o] := by simp [cut]
theorem arg_bytes {P : Program} {t e : TypeId} {v : AVal} (ht : P.underlying t = some (.slice e)) (he : P.underlying e = some (.int .u8)) (hc : P.cellsOf e = 1) (ha : Arg P t [v]) : ∃ l, ArgBytes v l ∧ l.length ≤ maxLen := by
 rcases ha.slice_inv ht (by omega) with h | ⟨f, len, h, hl, hx⟩
 ·injection h with h; subst h; exact ⟨[], ⟨fun h => .nils, fun _ => trivial⟩, Nat.zero_le _⟩
 ·injection h with h
  subst h
  rw [hc] at hx ⊢
  have each : ∀ i, ∃ b : UInt8, i < len → f i = u8 b := fun i => by
   by_cases hi : i < len
   ·have := hx i hi
    rw [Nat.mul_one, cut_one] at this
    obtain ⟨z, e1, hw⟩ := this.int_inv he
    injection e1 with e1
    exact ⟨byteOf z, fun _ => by rw [e1, u8, byteOf_eq hw]⟩
   ·exact ⟨0, fun q => absurd q hi⟩
  obtain ⟨b, hb⟩ := Classical.axiomOfChoice each
  refine ⟨(List.range len).map b, ⟨fun h => ?_, fun _ => trivial⟩, by simpa using hl⟩
  have := Bytes.isl (h := h) f 0 ((List.range len).map b) (fun j hj => by
   simp only [List.length_map, List.length_range] at hj
   rw [Nat.zero_add, hb j hj]; simp)
  simpa using this
end Go.Am
set_option linter.unusedSimpArgs false
set_option linter.unusedVariables false
set_option linter.defProp false
namespace Go.Am
open Go Go.RowKit
variable {E : Env} {fn : FuncId} {rnd : Option Nat} {Q : Post0} {ks : List Kf} {tm : List AVal} {h : Hp} {n : Nat} {ops rest : List Oper} {d : Option Tmp}
def wd (n i : Nat) : Nat := n / 2 ^ (64 * i) % 18446744073709551616
def W (n : Nat) : AVal := .agg [.int .u64 (wd n 0 : Nat), .int .u64 (wd n 1 : Nat), .int .u64 (wd n 2 : Nat), .int .u64 (wd n 3 : Nat)]
def Ints (k : IntKind) (h : Hp) (v : AVal) (id m : Nat) (f : Nat → Int) : Prop := (∃ cap, v = .sl id 0 m cap 1) ∧ ∃ c e, h id = some (.row c e) ∧ c.size = m ∧ ∀ j, j < m → c.at j = .int k (f j)
theorem Ints.keep {k : IntKind} {v : AVal} {id m : Nat} {f : Nat → Int} {h' : Hp} (hi : Ints k h v id m f) (hk : h' id = h id) : Ints k h' v id m f := by
 obtain ⟨a, c, e, b1, b2, b3⟩ := hi
 exact ⟨a, c, e, hk.trans b1, b2, b3⟩
theorem Ints.len {k : IntKind} {v : AVal} {id m : Nat} {f : Nat → Int} (hi : Ints k h v id m f) {t e : TypeId} {ts : List TypeId} (ht : und E t = M.pure (.slice e)) : bLen E (t :: ts) v = M.pure (.int .i64 (m : Nat)) := by
 obtain ⟨⟨cap, rfl⟩, _⟩ := hi
 simp only [bLen, ht, bind_pure, lenOf]
theorem Ints.idx {k : IntKind} {v : AVal} {id m : Nat} {f : Nat → Int} (hi : Ints k h v id m f) {t e : TypeId} (ht : und E t = M.pure (.slice e)) (he : sizeOf E e = M.pure 1) {kk : IntKind} {z : Int} {j : Nat} (hz : z = (j : Nat)) (hj : j < m) {h' : Hp} {n' : Nat} : Rd (indexAddr E t v (.int kk z)) h' n' [] (.ptr id j) := by
 obtain ⟨⟨cap, rfl⟩, _⟩ := hi
 subst hz
 simp only [indexAddr, ht, he, bind_pure, intK, slK, Go.Am.idx, bind_assoc, Nat.beq_refl, Int.toNat_natCast, Nat.zero_add, Nat.mul_one]
 exact Rd.bind (i2 := []) (Rd.ob (by simp; omega)) (Rd.pure _)
theorem Ints.load {k : IntKind} {v : AVal} {id m : Nat} {f : Nat → Int} (hi : Ints k h v id m f) {e : TypeId} {i : TI} (he : ti E e = M.pure i) (ha : aggB i.desc = false) {j : Nat} (hj : j < m) : Rd (load E e (.ptr id j)) h n [id] (.int k (f j)) := by
 obtain ⟨_, c, e', b1, b2, b3⟩ := hi
 simp only [Go.Am.load, he, bind_pure, ha, readCells, bind_assoc]
 refine Rd.bind (i2 := []) (Rd.get b1) ?_
 simp only [rowK, bind_assoc]
 refine Rd.bind (i2 := []) (Rd.ob (ble_of (by omega))) ?_
 rw [Cont.sub_one (by omega), b3 j hj]
 exact Rd.pure _
theorem put_nth (xs : List AVal) (v : AVal) : ∀ (i j : Nat), i < xs.length → nth (put xs i v) j .junk = if j = i then v else nth xs j .junk := by
 induction xs with
 | nil => intro i j h; cases h
 | cons a xs ih =>
  intro i j h
  cases i with
  | zero => cases j <;> simp [put, nth]
  | succ i =>
   cases j with
   | zero => simp [put, nth]
   | succ j => simp only [put, nth, ih i j (by simpa using h)]; simp
theorem cont_at_set (c : Cont) (i j : Nat) (v : AVal) (h : i < c.size) : (c.set i v).at j = if j = i then v else c.at j := by
 cases c with
 | l xs => exact put_nth xs v i j h
 | f n g =>
  simp only [Cont.set, Cont.at]
  by_cases e : j = i
  ·subst e; simp
  ·rw [beq_of e, if_neg e]
theorem put_len (xs : List AVal) (v : AVal) : ∀ i, (put xs i v).length = xs.length := by
 induction xs with
 | nil => intro i; rfl
 | cons a xs ih => intro i; cases i <;> simp [put, ih]
theorem cont_size_set (c : Cont) (i : Nat) (v : AVal) : (c.set i v).size = c.size := by
 cases c with
 | l xs => exact put_len xs v i
 | f n g => rfl
theorem Ints.store {k : IntKind} {v : AVal} {id m : Nat} {f : Nat → Int} (hi : Ints k h v id m f) {e : TypeId} {i : TI} (he : ti E e = M.pure i) (hs : i.size = 1) {j : Nat} (hj : j < m) {z : Int}
  (hq : ∀ b, Ints k (upd h id (some b)) v id m (fun x => if x = j then z else f x) → Ops E fn rnd Q ks ops rest (putT tm d undef) (upd h id (some b)) n) :
  OpV E fn rnd Q ks ops rest d tm (doStore E e (.ptr id j) (.int k z)) h n := by
 obtain ⟨a, c, e', b1, b2, b3⟩ := hi
 simp only [doStore, Go.Am.store, he, bind_pure, AVal.cells, hs, List.length_singleton, show Nat.beq 1 1 = true from rfl, writeCells, bind_assoc, OpV, wp_get, b1, Option.some.injEq, exists_eq_left', rowK, wp_ob, List.all_cons, List.all_nil, oneCell, Bool.and_true, wp_set, wp_pure, setAll]
 refine ⟨ble_of (by omega), by simp, hq _ ⟨a, _, e', upd_same _ _ _, by rw [cont_size_set]; exact b2, fun x hx => ?_⟩⟩
 rw [cont_at_set _ _ _ _ (by omega)]
 by_cases q : x = j
 ·simp only [if_pos q]
 ·simp only [if_neg q]; exact b3 x hx
def Arr (k : IntKind) (h : Hp) (id m : Nat) (f : Nat → Int) : Prop := ∃ c e, h id = some (.row c e) ∧ c.size = m ∧ ∀ j, j < m → c.at j = .int k (f j)
theorem Arr.keep {k : IntKind} {id m : Nat} {f : Nat → Int} {h' : Hp} (hi : Arr k h id m f) (hk : h' id = h id) : Arr k h' id m f := by
 obtain ⟨c, e, b1, b2, b3⟩ := hi
 exact ⟨c, e, hk.trans b1, b2, b3⟩
theorem Arr.upd {k : IntKind} {id m i : Nat} {f : Nat → Int} {b : Option Blk} (hi : Arr k h id m f) (hk : id ≠ i) : Arr k (upd h i b) id m f := hi.keep (upd_ne _ _ hk)
theorem Arr.load {k : IntKind} {id m : Nat} {f : Nat → Int} (hi : Arr k h id m f) {e : TypeId} {i : TI} (he : ti E e = M.pure i) (ha : aggB i.desc = false) {j : Nat} (hj : j < m) : Rd (load E e (.ptr id j)) h n [id] (.int k (f j)) := by
 obtain ⟨c, e', b1, b2, b3⟩ := hi
 simp only [Go.Am.load, he, bind_pure, ha, readCells, bind_assoc]
 refine Rd.bind (i2 := []) (Rd.get b1) ?_
 simp only [rowK, bind_assoc]
 refine Rd.bind (i2 := []) (Rd.ob (ble_of (by omega))) ?_
 rw [Cont.sub_one (by omega), b3 j hj]
 exact Rd.pure _
theorem Arr.all {k : IntKind} {id m : Nat} {f : Nat → Int} (hi : Arr k h id m f) {t : TypeId} {i : TI} (he : ti E t = M.pure i) (ha : aggB i.desc = true) (hs : i.size = m) : Rd (Go.Am.load E t (.ptr id 0)) h n [id] (.agg ((List.range m).map fun j => .int k (f j))) := by
 obtain ⟨c, e', b1, b2, b3⟩ := hi
 simp only [Go.Am.load, he, bind_pure, ha, readCells, bind_assoc, hs]
 refine Rd.bind (i2 := []) (Rd.get b1) ?_
 simp only [rowK, bind_assoc]
 refine Rd.bind (i2 := []) (Rd.ob (ble_of (by omega))) ?_
 have hsub : c.sub 0 m = (List.range m).map fun j => AVal.int k (f j) := by
  have := Cont.sub_eq (c := c) (off := 0) (l := (List.range m).map fun j => AVal.int k (f j)) (by simp; omega) (fun j hj => by
   simp only [List.length_map, List.length_range] at hj
   rw [Nat.zero_add, b3 j hj]; simp)
  simpa using this
 rw [hsub]
 exact Rd.pure _
theorem cell_rd {id e off : Nat} {t : TypeId} {i : TI} {cs : List AVal} {x : AVal} (hh : h id = some (.row (.l cs) e)) (hc : cs[off]? = some x) (hi : ti E t = M.pure i) (ha : aggB i.desc = false) : Rd (Go.Am.load E t (.ptr id off)) h n [id] x := by
 obtain ⟨hl, hx⟩ := List.getElem?_eq_some_iff.1 hc
 simp only [Go.Am.load, hi, bind_pure, ha, readCells, bind_assoc]
 refine Rd.bind (i2 := []) (Rd.get hh) ?_
 simp only [rowK, bind_assoc]
 refine Rd.bind (i2 := []) (Rd.ob (ble_of (by show off + 1 ≤ cs.length; omega))) ?_
 rw [Cont.sub_one (by show off < cs.length; exact hl), Cont.at_l hl, hx]
 exact Rd.pure _
structure Wr {α : Type} (m : M α) (h : Hp) (n : Nat) (rs ws : List Nat) (v : α) (h2 : Hp) : Prop where
 r : ∀ s, At s h n → ∃ s' o, m.run s = .ok v s' ∧ s'.heap.get = h2 ∧ s'.next = s.next ∧ s'.orc = none ∧ s'.rds = rs ++ s.rds ∧ s'.wrs = ws ++ s.wrs ∧ s'.obs = o ++ s.obs ∧ o.all id = true
theorem Wr.bind {α β : Type} {m : M α} {f : α → M β} {i1 rs ws : List Nat} {a : α} {b : β} {h2 : Hp} (h1 : Rd m h n i1 a) (hw : Wr (f a) h n rs ws b h2) : Wr (m.bind f) h n (rs ++ i1) ws b h2 := by
 refine ⟨fun s hs => ?_⟩
 obtain ⟨s1, o1, e1, a1, b1, c1, d1, w1, g1, q1⟩ := h1.r s hs
 obtain ⟨s2, o2, e2, a2, b2, c2, d2, w2, g2, q2⟩ := hw.r s1 ⟨by rw [a1, hs.hp], by rw [b1, hs.nx], c1⟩
 exact ⟨s2, o2 ++ o1, by simp only [M.bind, bindF, e1, e2], a2, by rw [b2, b1], c2, by rw [d2, d1, List.append_assoc], by rw [w2, w1], by rw [g2, g1, List.append_assoc], by rw [List.all_append, q1, q2]; rfl⟩
theorem Wr.ret {α β : Type} {m : M α} {rs ws : List Nat} {a : α} {w : β} {h2 : Hp} (hw : Wr m h n rs ws a h2) : Wr (m.bind fun _ => M.pure w) h n rs ws w h2 := by
 refine ⟨fun s hs => ?_⟩
 obtain ⟨s1, o1, e1, r⟩ := hw.r s hs
 exact ⟨s1, o1, by simp only [M.bind, bindF, e1, M.pure], r⟩
theorem Wr.set {id : Nat} {b0 b : Blk} (hg : h id = some b0) : Wr (setB id b) h n [] [id] () (Go.Am.upd h id (some b)) := by
 refine ⟨fun s hs => ⟨{ s with heap := s.heap.put id (some b), wrs := id :: s.wrs }, [], ?_, ?_, rfl, hs.oc, rfl, rfl, rfl, rfl⟩⟩
 ·have : s.heap.get id = some b0 := by rw [hs.hp]; exact hg
  simp only [setB, setF, this]
 ·funext j
  simp only [Tr.get_put, hs.hp, Go.Am.upd]
theorem fev_wr {m : M AVal} {rs ws : List Nat} {v : AVal} {h2 : Hp} {o : Nat} {fs : List Foot} (hr : Wr m h n rs ws v h2) (hq : Fe E fn rnd Q ks ops (o + 1) rest (putT tm d v) (⟨o, rs, ws, n, n⟩ :: fs) h2 n) :
  FeV E fn rnd Q ks ops o rest d tm fs m h n := by
 unfold FeV
 obtain ⟨s', ob, e, a, b, c, dd, w, g, q⟩ := hr.r (at0 h n) (at0_at h n)
 have hold : ∀ l : List Nat, l.filter (old n n) = l := fun l => by
  rw [List.filter_eq_self]
  intro id _
  unfold old
  by_cases hc : id < n
  ·rw [show id.blt n = true from Nat.ble_eq_true_of_le hc]; rfl
  ·rw [show n.ble id = true from Nat.ble_eq_true_of_le (by omega)]; simp
 have hf : (foot o m).run (at0 h n) = .ok (v, ⟨o, rs, ws, n, n⟩) { s' with rds := s'.rds ++ (at0 h n).rds, wrs := s'.wrs ++ (at0 h n).wrs } := by
  have e' : m.run { at0 h n with rds := [], wrs := [] } = .ok v s' := e
  simp only [foot, footF, e', dd, w, b]
  simp only [at0, List.append_nil, hold]
 rw [wp_iff]
 refine ⟨_, _, ⟨hf, ⟨ob, g, q⟩, c⟩, ?_⟩
 rw [a, b]; exact hq
theorem clash_rw {i j n m x y : Nat} (h : x ≠ y) : clash ⟨i, [x], [], n, n⟩ ⟨j, [y], [y], m, m⟩ = false := by
 simp [clash, meets, hits, beq_of h]
theorem clash_wr {i j n m x y : Nat} (h : x ≠ y) : clash ⟨i, [x], [x], n, n⟩ ⟨j, [y], [], m, m⟩ = false := by
 simp [clash, meets, hits, beq_of h]
theorem clash_ww {i j n m x y : Nat} (h : x ≠ y) : clash ⟨i, [x], [x], n, n⟩ ⟨j, [y], [y], m, m⟩ = false := by
 simp [clash, meets, hits, beq_of h]
theorem clash_nw {i j a b m x : Nat} (h : x < a ∨ b ≤ x) : clash ⟨i, [], [], a, b⟩ ⟨j, [x], [x], m, m⟩ = false := by
 have : within a b x = false := by
  unfold within
  rcases h with h | h
  ·rw [blit_of (by omega)]; rfl
  ·rw [show x.blt b = false from blit_of (by omega)]; simp
 simp only [clash, meets, hits, this, List.any_nil, List.any_cons, Bool.or_false, Bool.false_or, Bool.or_self]
 cases a.beq b <;> simp [this]
theorem clash_xn {i j a b m x : Nat} (h : x < a ∨ b ≤ x) : clash ⟨i, [x], [], m, m⟩ ⟨j, [], [], a, b⟩ = false := by
 have : within a b x = false := by
  unfold within
  rcases h with h | h
  ·rw [blit_of (by omega)]; rfl
  ·rw [show x.blt b = false from blit_of (by omega)]; simp
 simp only [clash, meets, hits, this, List.any_nil, List.any_cons, Bool.or_false, Bool.false_or, Bool.or_self]
 cases a.beq b <;> simp [this]
theorem clash_nx {i j a b m x : Nat} (h : x < a ∨ b ≤ x) : clash ⟨i, [], [], a, b⟩ ⟨j, [x], [], m, m⟩ = false := by
 have : within a b x = false := by
  unfold within
  rcases h with h | h
  ·rw [blit_of (by omega)]; rfl
  ·rw [show x.blt b = false from blit_of (by omega)]; simp
 simp only [clash, meets, hits, this, List.any_nil, List.any_cons, Bool.or_false, Bool.false_or, Bool.or_self]
 cases a.beq b <;> simp [this]
end Go.Am
set_option linter.unusedSimpArgs false
set_option linter.unusedVariables false
set_option linter.defProp false
namespace Go.Am
open Go
def subAct : List AVal → M AVal
 | [.int .u64 x, .int .u64 y, .int .u64 c] => (ob (decide (0 ≤ x ∧ 0 ≤ y ∧ 0 ≤ c ∧ c ≤ 1))).bind fun _ => M.pure (.tup [.int .u64 (((x.toNat + 18446744073709551616 - y.toNat - c.toNat) % 18446744073709551616 : Nat) : Int), .int .u64 ((if x.toNat < y.toNat + c.toNat then 1 else 0 : Nat) : Int)])
 | _ => fail "Sub64"
variable {P : Program} {f : FuncId}
def subD (x y c : Nat) : Nat := (x + 18446744073709551616 - y - c) % 18446744073709551616
def subC (x y c : Nat) : Nat := if x < y + c then 1 else 0
theorem sub_eq {x y c : Nat} (hc : c ≤ 1) : subAct [.int .u64 (x : Nat), .int .u64 (y : Nat), .int .u64 (c : Nat)] = (ob true).bind fun _ => M.pure (.tup [.int .u64 (subD x y c : Nat), .int .u64 (subC x y c : Nat)]) := by
 have hd : decide ((0 : Int) ≤ (x : Nat) ∧ (0 : Int) ≤ (y : Nat) ∧ (0 : Int) ≤ (c : Nat) ∧ ((c : Nat) : Int) ≤ 1) = true := decide_eq_true ⟨by omega, by omega, by omega, by omega⟩
 simp only [subAct, hd]
 rfl
end Go.Am
set_option linter.unusedSimpArgs false
set_option linter.unusedVariables false
set_option linter.defProp false
namespace Go.Am
open Go
end Go.Am
