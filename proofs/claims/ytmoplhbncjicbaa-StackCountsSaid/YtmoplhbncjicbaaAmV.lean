/- The abstract machine's operations do what the model's do: operators, conversions. -/
import Derived.Test.YtmoplhbncjicbaaAmU
import Derived.Laws.BytesArg
import Derived.Laws.IdiomStrings
import Derived.Laws.StructEq
set_option linter.unusedSimpArgs false
set_option linter.unusedVariables false
namespace Go.Am
open Go

variable {E : Env}
section
variable {ρ : Ren} {m : Mem} {s s' : St} {w : World} {v : AVal}

theorem intOp_sim {P : Program} {op : BinOp} {k : IntKind} {a b : Int} (h : (intOp op k a b).run s = .ok v s') (ho : OkObs s') (hr : Rel P ρ m s.heap.get w) (t : TypeId) :
    Out P ρ m s w s' v ((Go.binOp op t (.int k a) (.int k b)).run P w) := by
  cases op <;> simp only [intOp] at h
  case quo =>
    obtain ⟨_, s1, h1, h2, ho1, _, _⟩ := M.bind_did h ho
    obtain ⟨h3, e⟩ := ob_ok h1 ho1
    obtain ⟨rfl, rfl⟩ := pure_ok h2
    have hb : ¬ b = 0 := of_decide_eq_true h3
    simp only [Go.binOp, ne_eq, not_true_eq_false, if_false, Op.intDiv, hb, Sem.run_pure]
    exact .same hr e (.int _ _)
  case rem =>
    obtain ⟨_, s1, h1, h2, ho1, _, _⟩ := M.bind_did h ho
    obtain ⟨h3, e⟩ := ob_ok h1 ho1
    obtain ⟨rfl, rfl⟩ := pure_ok h2
    have hb : ¬ b = 0 := of_decide_eq_true h3
    simp only [Go.binOp, ne_eq, not_true_eq_false, if_false, Op.intDiv, hb, Sem.run_pure]
    exact .same hr e (.int _ _)
  case shl => exact (fail_ok h).elim
  case shr => exact (fail_ok h).elim
  all_goals
    obtain ⟨rfl, rfl⟩ := pure_ok h
    simp only [Go.binOp, ne_eq, not_true_eq_false, if_false, Op.intArith, Op.intBits, Op.intCmp, Sem.run_pure]
    first
      | exact .same hr (.refl _) (.int _ _)
      | exact .same hr (.refl _) (.bool _)
theorem shiftOp_sim {P : Program} {op : BinOp} {k k' : IntKind} {a b : Int} (h : (shiftOp op k a b).run s = .ok v s') (ho : OkObs s') (hr : Rel P ρ m s.heap.get w) (t : TypeId) :
    Out P ρ m s w s' v ((Go.binOp op t (.int k a) (.int k' b)).run P w) := by
  obtain ⟨_, s1, h1, h2, ho1, _, _⟩ := M.bind_did h ho
  obtain ⟨h3, e⟩ := ob_ok h1 ho1
  have hb : ¬ b < 0 := by have := of_decide_eq_true h3; omega
  cases op <;> simp only at h2
  case shl =>
    obtain ⟨rfl, rfl⟩ := pure_ok h2
    simp only [Go.binOp, Op.shift, hb, if_false, Sem.run_pure]
    exact .same hr e (.int _ _)
  case shr =>
    obtain ⟨rfl, rfl⟩ := pure_ok h2
    simp only [Go.binOp, Op.shift, hb, if_false, Sem.run_pure]
    exact .same hr e (.int _ _)
  all_goals exact (fail_ok h2).elim
theorem toList_eq (l : List UInt8) : (⟨⟨l⟩⟩ : ByteArray).toList = l := by
  rw [ByteArray.toList_eq]
theorem strOp_sim {P : Program} {op : BinOp} {x y : List UInt8} (h : (strOp op x y).run s = .ok v s') (ho : OkObs s') (hr : Rel P ρ m s.heap.get w) (t : TypeId) :
    Out P ρ m s w s' v ((Go.binOp op t (.string ⟨⟨x⟩⟩) (.string ⟨⟨y⟩⟩)).run P w) := by
  cases op <;> simp only [strOp] at h
  case add =>
    obtain ⟨_, s1, h1, h2, ho1, _, _⟩ := M.bind_did h ho
    obtain ⟨h3, e⟩ := ob_ok h1 ho1
    obtain ⟨rfl, rfl⟩ := pure_ok h2
    have h4 := of_decide_eq_true h3
    have hsz : ¬ ((((⟨⟨x⟩⟩ : ByteArray).size + (⟨⟨y⟩⟩ : ByteArray).size : Nat) : Int) > IntKind.i64.max) := by
      have e1 : (⟨⟨x⟩⟩ : ByteArray).size = x.length := rfl
      have e2 : (⟨⟨y⟩⟩ : ByteArray).size = y.length := rfl
      have e3 : IntKind.i64.max = 9223372036854775807 := rfl
      rw [e1, e2, e3]; omega
    have happ : (⟨⟨x⟩⟩ ++ ⟨⟨y⟩⟩ : ByteArray) = ⟨⟨x ++ y⟩⟩ := by
      have : (⟨⟨x⟩⟩ ++ ⟨⟨y⟩⟩ : ByteArray).data = ⟨x ++ y⟩ := by rw [ByteArray.data_append]; simp
      cases hh : (⟨⟨x⟩⟩ ++ ⟨⟨y⟩⟩ : ByteArray) with
      | mk d => rw [hh] at this; simp only at this; rw [this]
    simp only [Go.binOp, Op.stringOp, hsz, if_false, Sem.run_pure, happ]
    exact .same hr e (.str _)
  all_goals
    first
      | exact (fail_ok h).elim
      | (obtain ⟨rfl, rfl⟩ := pure_ok h
         simp only [Go.binOp, Op.stringOp, Sem.run_pure, toList_eq]
         exact .same hr (.refl _) (.bool _))
theorem boolOf_ok {a : AVal} {b : Bool} (h : (boolOf a).run s = .ok b s') {x : Value} (hx : R ρ m a x) : s' = s ∧ x = .bool b := by
  unfold boolOf at h
  split at h
  · obtain ⟨rfl, rfl⟩ := pure_ok h; exact ⟨rfl, hx.bool_inv⟩
  · obtain ⟨rfl, rfl⟩ := pure_ok h; exact ⟨rfl, hx.blit_inv⟩
  · exact (fail_ok h).elim
theorem nilPtr_ok {a : AVal} {b : Bool} (h : (nilPtr a).run s = .ok b s') {x : Value} (hx : R ρ m a x) : s' = s ∧ ((b = true ∧ x = .pointer none) ∨ (b = false ∧ ∃ ad, x = .pointer (some ad))) := by
  unfold nilPtr at h
  split at h
  · obtain ⟨rfl, rfl⟩ := pure_ok h; cases hx; exact ⟨rfl, .inl ⟨rfl, rfl⟩⟩
  · obtain ⟨rfl, rfl⟩ := pure_ok h; cases hx; exact ⟨rfl, .inr ⟨rfl, _, rfl⟩⟩
  · obtain ⟨rfl, rfl⟩ := pure_ok h; cases hx; exact ⟨rfl, .inr ⟨rfl, _, rfl⟩⟩
  · exact (fail_ok h).elim
theorem nilFn_ok {a : AVal} {b : Bool} (h : (nilFn a).run s = .ok b s') {x : Value} (hx : R ρ m a x) : s' = s ∧ ((b = true ∧ x = .nilFunc) ∨ (b = false ∧ ∃ f p q, x = .func f p q)) := by
  unfold nilFn at h
  split at h
  · obtain ⟨rfl, rfl⟩ := pure_ok h; cases hx; exact ⟨rfl, .inl ⟨rfl, rfl⟩⟩
  · obtain ⟨rfl, rfl⟩ := pure_ok h; cases hx; exact ⟨rfl, .inr ⟨rfl, _, _, _, rfl⟩⟩
  · exact (fail_ok h).elim
theorem nilSl_ok {a : AVal} {b : Bool} (h : (nilSl a).run s = .ok b s') {x : Value} (hx : R ρ m a x) : s' = s ∧ ((b = true ∧ x = .slice none 0 0) ∨ (b = false ∧ ∃ ad l c, x = .slice (some ad) l c)) := by
  unfold nilSl at h
  split at h
  · obtain ⟨rfl, rfl⟩ := pure_ok h; cases hx; exact ⟨rfl, .inl ⟨rfl, rfl⟩⟩
  · obtain ⟨rfl, rfl⟩ := pure_ok h; cases hx <;> exact ⟨rfl, .inr ⟨rfl, _, _, _, rfl⟩⟩
  · obtain ⟨rfl, rfl⟩ := pure_ok h; cases hx <;> exact ⟨rfl, .inr ⟨rfl, _, _, _, rfl⟩⟩
  · exact (fail_ok h).elim
theorem nilMap_ok {a : AVal} {b : Bool} (h : (nilMap a).run s = .ok b s') {x : Value} (hx : R ρ m a x) : s' = s ∧ ((b = true ∧ x = .map none) ∨ (b = false ∧ ∃ r, x = .map (some r))) := by
  unfold nilMap at h
  split at h
  · obtain ⟨rfl, rfl⟩ := pure_ok h; cases hx; exact ⟨rfl, .inl ⟨rfl, rfl⟩⟩
  · obtain ⟨rfl, rfl⟩ := pure_ok h; cases hx; exact ⟨rfl, .inr ⟨rfl, _, rfl⟩⟩
  · exact (fail_ok h).elim
theorem eqAt_ok : ∀ (l : List (QE E.P)) (t : Nat), eqAt E l t = true → E.P.stoodInHeld t = false ∧ E.P.eqGuardType E.P.depth t = false
  | [], _, h => by cases h
  | q :: l, t, h => by
    simp only [eqAt, Bool.or_eq_true] at h
    rcases h with h | h
    · have := Nat.eq_of_beq_eq_true h
      rw [← this]
      exact ⟨q.held, q.guard⟩
    · exact eqAt_ok l t h
def eqElems (d : Nat) (e : TypeId) (n : Nat) (xs ys : Array Value) : List Nat → Sem Bool
  | [] => pure true
  | i :: l => do
      let a ← Go.part e xs (i * n)
      let b ← Go.part e ys (i * n)
      let r ← Op.equalIn d e a b
      if (!r) = true then pure false else eqElems d e n xs ys l
theorem run_equalIn_array {P : Program} (w : World) (d : Nat) (t : TypeId) (xs ys : Array Value) {n : Nat} {e : TypeId} {z : Nat} (ht : P.underlying t = some (.array n e)) (hz : ∀ {w : World}, (Go.sizeOf e).run P w = .ok z w) :
    (Op.equalIn (d + 1) t (.agg xs) (.agg ys)).run P w = (eqElems d e z xs ys (List.range n)).run P w := by
  simp only [Op.equalIn, Sem.run_bind, run_underlying ht, Result.andThen_ok, hz]
  rw [Std.Legacy.Range.forIn_eq_forIn_range']
  simp only [Std.Legacy.Range.size, Nat.sub_zero, Nat.add_sub_cancel, Nat.div_one, ← List.range_eq_range']
  generalize List.range n = fs
  clear ht
  induction fs generalizing w with
  | nil => simp [eqElems]
  | cons f fs ih =>
    simp only [List.forIn_cons, eqElems, Sem.run_bind, Sem.run_ite]
    generalize (Go.part e xs (f * z)).run P w = r1
    cases r1 with
    | ok a w1 =>
      simp only [Result.andThen_ok]
      generalize (Go.part e ys (f * z)).run P w1 = r2
      cases r2 with
      | ok b w2 =>
        simp only [Result.andThen_ok]
        generalize (Op.equalIn d e a b).run P w2 = r3
        cases r3 with
        | ok r w3 =>
          cases r
          · simp only [Result.andThen_ok, Bool.not_false, if_true, Sem.run_pure]
          · simp only [Result.andThen_ok, Bool.not_true, Bool.false_eq_true, if_false, Sem.run_pure]
            exact ih w3
        | halt x w3 => simp [Result.andThen]
      | halt x w2 => simp [Result.andThen]
    | halt x w1 => simp [Result.andThen]
/-- Equality, part by part. -/
theorem equal_sim : ∀ (d k : Nat) {t : TypeId} {a b : AVal} {c : Bool} {s s' : St}, (equal E d t a b).run s = .ok c s' → OkObs s' → ∀ {x y : Value}, R ρ m a x → R ρ m b y → ∀ w : World,
    Same s s' ∧ (Op.equalIn (d + k) t x y).run E.P w = .ok c w := by
  intro d
  induction d with
  | zero => intro k t a b c s s' h; exact (fail_ok h).elim
  | succ d ih =>
    intro k t a b c s s' h ho x y hx hy w
    obtain ⟨u, s1, h1, h2⟩ := M.bind_ok h
    obtain ⟨⟨i, hi, rfl⟩, rfl⟩ := und_ok h1
    have hu := hi.run_und (w := w)
    have ek : d + 1 + k = (d + k) + 1 := by omega
    rw [ek]
    cases hd : i.desc with
    | bool =>
      rw [hd] at h2 hu
      obtain ⟨p, s2, h3, h4⟩ := M.bind_ok h2
      obtain ⟨rfl, rfl⟩ := boolOf_ok h3 hx
      obtain ⟨q, s3, h5, h6⟩ := M.bind_ok h4
      obtain ⟨rfl, rfl⟩ := boolOf_ok h5 hy
      obtain ⟨rfl, rfl⟩ := pure_ok h6
      exact ⟨.refl _, by simp only [Op.equalIn, Sem.run_bind, hu, Result.andThen_ok, Sem.run_pure]⟩
    | int kk =>
      rw [hd] at h2 hu
      simp only at h2
      split at h2
      · split at h2
        · rename_i k1 n1 _ k2 n2
          split at h2
          · rename_i hk
            have hk' : k1 = k2 := of_decide_eq_true hk
            subst hk'
            obtain ⟨rfl, rfl⟩ := pure_ok h2
            obtain rfl := hx.int_inv
            obtain rfl := hy.int_inv
            exact ⟨.refl _, by simp only [Op.equalIn, Sem.run_bind, hu, Result.andThen_ok, if_true, Sem.run_pure]⟩
          · exact (fail_ok h2).elim
        · exact (fail_ok h2).elim
      · exact (fail_ok h2).elim
    | string =>
      rw [hd] at h2 hu
      obtain ⟨l, rfl, h3⟩ := str_ok h2
      obtain ⟨l', rfl, h4⟩ := str_ok h3
      obtain ⟨rfl, rfl⟩ := pure_ok h4
      obtain rfl := hx.str_inv
      obtain rfl := hy.str_inv
      refine ⟨.refl _, ?_⟩
      have : ((⟨⟨l⟩⟩ : ByteArray) == ⟨⟨l'⟩⟩) = (l == l') := by
        rw [beq_toListBytes, toList_eq, toList_eq]
      simp only [Op.equalIn, Sem.run_bind, hu, Result.andThen_ok, Sem.run_pure, this]
    | pointer e =>
      rw [hd] at h2 hu
      obtain ⟨p, s2, h3, h4⟩ := M.bind_ok h2
      obtain ⟨rfl, hp⟩ := nilPtr_ok h3 hx
      obtain ⟨q, s3, h5, h6⟩ := M.bind_ok h4
      obtain ⟨rfl, hq⟩ := nilPtr_ok h5 hy
      rcases hp with ⟨rfl, rfl⟩ | ⟨rfl, ad, rfl⟩
      · obtain ⟨rfl, rfl⟩ := pure_ok h6
        rcases hq with ⟨rfl, rfl⟩ | ⟨rfl, ad, rfl⟩
        · exact ⟨.refl _, by simp only [Op.equalIn, Sem.run_bind, hu, Result.andThen_ok, Sem.run_pure]; rfl⟩
        · exact ⟨.refl _, by simp only [Op.equalIn, Sem.run_bind, hu, Result.andThen_ok, Sem.run_pure]; rfl⟩
      · rcases hq with ⟨rfl, rfl⟩ | ⟨rfl, ad', rfl⟩
        · obtain ⟨rfl, rfl⟩ := pure_ok h6
          exact ⟨.refl _, by simp only [Op.equalIn, Sem.run_bind, hu, Result.andThen_ok, Sem.run_pure]; rfl⟩
        · exact (fail_ok h6).elim
    | func a1 b1 c1 =>
      rw [hd] at h2 hu
      obtain ⟨p, s2, h3, h4⟩ := M.bind_ok h2
      obtain ⟨rfl, hp⟩ := nilFn_ok h3 hx
      obtain ⟨q, s3, h5, h6⟩ := M.bind_ok h4
      obtain ⟨rfl, hq⟩ := nilFn_ok h5 hy
      rcases hp with ⟨rfl, rfl⟩ | ⟨rfl, f, pp, qq, rfl⟩
      · obtain ⟨rfl, rfl⟩ := pure_ok h6
        rcases hq with ⟨rfl, rfl⟩ | ⟨rfl, f, pp, qq, rfl⟩
        · exact ⟨.refl _, by simp only [Op.equalIn, Sem.run_bind, hu, Result.andThen_ok, Sem.run_pure, Bool.and_self]⟩
        · exact ⟨.refl _, by simp only [Op.equalIn, Sem.run_bind, hu, Result.andThen_ok, Sem.run_pure, Bool.and_false]⟩
      · rcases hq with ⟨rfl, rfl⟩ | ⟨rfl, f', pp', qq', rfl⟩
        · obtain ⟨rfl, rfl⟩ := pure_ok h6
          exact ⟨.refl _, by simp only [Op.equalIn, Sem.run_bind, hu, Result.andThen_ok, Sem.run_pure]; rfl⟩
        · exact (fail_ok h6).elim
    | slice e =>
      rw [hd] at h2 hu
      obtain ⟨p, s2, h3, h4⟩ := M.bind_ok h2
      obtain ⟨rfl, hp⟩ := nilSl_ok h3 hx
      obtain ⟨q, s3, h5, h6⟩ := M.bind_ok h4
      obtain ⟨rfl, hq⟩ := nilSl_ok h5 hy
      rcases hp with ⟨rfl, rfl⟩ | ⟨rfl, ad, l1, c1, rfl⟩
      · obtain ⟨rfl, rfl⟩ := pure_ok h6
        rcases hq with ⟨rfl, rfl⟩ | ⟨rfl, ad, l1, c1, rfl⟩
        · exact ⟨.refl _, by simp only [Op.equalIn, Sem.run_bind, hu, Result.andThen_ok, Sem.run_pure]; rfl⟩
        · exact ⟨.refl _, by simp only [Op.equalIn, Sem.run_bind, hu, Result.andThen_ok, Sem.run_pure]; rfl⟩
      · rcases hq with ⟨rfl, rfl⟩ | ⟨rfl, ad', l2, c2, rfl⟩
        · obtain ⟨rfl, rfl⟩ := pure_ok h6
          exact ⟨.refl _, by simp only [Op.equalIn, Sem.run_bind, hu, Result.andThen_ok, Sem.run_pure]; rfl⟩
        · exact (fail_ok h6).elim
    | map k1 e1 =>
      rw [hd] at h2 hu
      obtain ⟨p, s2, h3, h4⟩ := M.bind_ok h2
      obtain ⟨rfl, hp⟩ := nilMap_ok h3 hx
      obtain ⟨q, s3, h5, h6⟩ := M.bind_ok h4
      obtain ⟨rfl, hq⟩ := nilMap_ok h5 hy
      rcases hp with ⟨rfl, rfl⟩ | ⟨rfl, r, rfl⟩
      · obtain ⟨rfl, rfl⟩ := pure_ok h6
        rcases hq with ⟨rfl, rfl⟩ | ⟨rfl, r, rfl⟩
        · exact ⟨.refl _, by simp only [Op.equalIn, Sem.run_bind, hu, Result.andThen_ok, Sem.run_pure]; rfl⟩
        · exact ⟨.refl _, by simp only [Op.equalIn, Sem.run_bind, hu, Result.andThen_ok, Sem.run_pure]; rfl⟩
      · rcases hq with ⟨rfl, rfl⟩ | ⟨rfl, r', rfl⟩
        · obtain ⟨rfl, rfl⟩ := pure_ok h6
          exact ⟨.refl _, by simp only [Op.equalIn, Sem.run_bind, hu, Result.andThen_ok, Sem.run_pure]; rfl⟩
        · exact (fail_ok h6).elim
    | struct fs =>
      rw [hd] at h2 hu
      simp only at h2
      split at h2
      · rename_i hq
        obtain ⟨hheld, _⟩ := eqAt_ok _ _ hq
        obtain ⟨l, rfl, h3⟩ := agg_ok h2
        obtain ⟨l', rfl, h4⟩ := agg_ok h3
        obtain ⟨xs, rfl, hxs⟩ := hx.agg_inv
        obtain ⟨ys, rfl, hys⟩ := hy.agg_inv
        have hfs : E.P.fieldsOf t = fs := by simp [Program.fieldsOf, hi.und, hd]
        have hut : E.P.underlying t = some (.struct (E.P.fieldsOf t)) := by rw [hfs, hi.und, hd]
        rw [run_equalIn_struct w (d + k) t xs ys hut hheld, hfs]
        clear h1 h2 h3 h hx hy
        revert c s1 s'
        induction fs.toList with
        | nil =>
          intro c s' ho s1 h
          obtain ⟨rfl, rfl⟩ := pure_ok h
          exact ⟨.refl _, rfl⟩
        | cons f fl ihl =>
          intro c s' ho s1 h
          obtain ⟨p, s2, h5, h6, ho2, _, _⟩ := M.bind_did h ho
          obtain ⟨q, s3, h7, h8, ho3, _, _⟩ := M.bind_did h6 ho
          obtain ⟨rfl, rfl⟩ := pure_ok h8
          obtain ⟨e2, r2⟩ := ihl ho3 _ h7
          simp only at h5
          split at h5
          · rename_i hn
            have hn' : f.name = "_" := of_decide_eq_true hn
            obtain ⟨rfl, rfl⟩ := pure_ok h5
            refine ⟨e2, ?_⟩
            simp only [Op.eqFields, hn', ne_eq, not_true_eq_false, if_false, r2, Bool.true_and]
          · rename_i hn
            have hn' : ¬ f.name = "_" := of_decide_eq_false hn
            obtain ⟨a1, s4, k1, k2⟩ := M.bind_ok h5
            obtain ⟨rfl, xa, k3, k4⟩ := part_sim k1 hxs w
            obtain ⟨b1, s5, k5, k6⟩ := M.bind_ok k2
            obtain ⟨rfl, ya, k7, k8⟩ := part_sim k5 hys w
            obtain ⟨e1, r1⟩ := ih k k6 ho2 k4 k8 w
            refine ⟨e1.trans e2, ?_⟩
            simp only [Op.eqFields, ne_eq, hn', not_false_eq_true, if_true, Sem.run_bind, k3, k7, r1, Result.andThen_ok]
            cases p
            · simp
            · simp [r2]
      · exact (fail_ok h2).elim
    | array n e =>
      rw [hd] at h2 hu
      simp only at h2
      split at h2
      · obtain ⟨l, rfl, h3⟩ := agg_ok h2
        obtain ⟨l', rfl, h4⟩ := agg_ok h3
        obtain ⟨xs, rfl, hxs⟩ := hx.agg_inv
        obtain ⟨ys, rfl, hys⟩ := hy.agg_inv
        obtain ⟨z, s2, h5, h6⟩ := M.bind_ok h4
        obtain ⟨⟨j, hj, rfl⟩, rfl⟩ := sizeOf_ok h5
        rw [run_equalIn_array w (d + k) t xs ys (by rw [hi.und, hd]) hj.run_size]
        clear h1 h2 h3 h4 h5 h hx hy
        revert c s2 s'
        induction List.range n with
        | nil =>
          intro c s' ho s2 h
          obtain ⟨rfl, rfl⟩ := pure_ok h
          exact ⟨.refl _, rfl⟩
        | cons q ql ihl =>
          intro c s' ho s2 h
          obtain ⟨p, s3, h5, h6, ho2, _, _⟩ := M.bind_did h ho
          obtain ⟨q1, s4, h7, h8, ho3, _, _⟩ := M.bind_did h6 ho
          obtain ⟨rfl, rfl⟩ := pure_ok h8
          obtain ⟨e2, r2⟩ := ihl ho3 _ h7
          obtain ⟨a1, s5, k1, k2⟩ := M.bind_ok h5
          obtain ⟨rfl, xa, k3, k4⟩ := part_sim k1 hxs w
          obtain ⟨b1, s6, k5, k6⟩ := M.bind_ok k2
          obtain ⟨rfl, ya, k7, k8⟩ := part_sim k5 hys w
          obtain ⟨e1, r1⟩ := ih k k6 ho2 k4 k8 w
          refine ⟨e1.trans e2, ?_⟩
          simp only [eqElems, Sem.run_bind, k3, k7, r1, Result.andThen_ok]
          cases p
          · simp
          · simp [r2]
      · exact (fail_ok h2).elim
    | _ => rw [hd] at h2; exact (fail_ok h2).elim
end
end Go.Am
