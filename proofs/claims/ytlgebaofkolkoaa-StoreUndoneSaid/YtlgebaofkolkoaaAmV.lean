/- The abstract machine. -/
import Derived.Test.YtlgebaofkolkoaaAmU
import Derived.Laws.BytesArg
import Derived.Laws.IdiomStrings
import Derived.Laws.StructEq
set_option linter.unusedSimpArgs false
set_option linter.unusedVariables false
namespace Go.Am
open Go
variable {E : Env}
section
variable {ρ : Ren} {m : Mem} {s s' : St} {w : World} {v : a9}
theorem G6 {P : Program} {op : BinOp} {k : IntKind} {a b : Int} (h : (intOp op k a b).run s = .ok v s') (ho : bU s') (hr : Rel P ρ m s.heap.get w) (t : TypeId) :
    Out P ρ m s w s' v ((Go.binOp op t (.int k a) (.int k b)).run P w) := by
  cases op <;> simp only [intOp] at h
  case quo =>
    obtain ⟨_, s1, h1, h2, ho1, _, _⟩ := M.aL h ho
    obtain ⟨h3, e⟩ := eF h1 ho1
    obtain ⟨rfl, rfl⟩ := aE h2
    have hb : ¬ b = 0 := of_decide_eq_true h3
    simp only [Go.binOp, ne_eq, not_true_eq_false, if_false, Op.intDiv, hb, Sem.run_pure]
    exact .same hr e (.int _ _)
  case rem =>
    obtain ⟨_, s1, h1, h2, ho1, _, _⟩ := M.aL h ho
    obtain ⟨h3, e⟩ := eF h1 ho1
    obtain ⟨rfl, rfl⟩ := aE h2
    have hb : ¬ b = 0 := of_decide_eq_true h3
    simp only [Go.binOp, ne_eq, not_true_eq_false, if_false, Op.intDiv, hb, Sem.run_pure]
    exact .same hr e (.int _ _)
  case shl => exact (aG h).elim
  case shr => exact (aG h).elim
  all_goals
    obtain ⟨rfl, rfl⟩ := aE h
    simp only [Go.binOp, ne_eq, not_true_eq_false, if_false, Op.intArith, Op.intBits, Op.intCmp, Sem.run_pure]
    first
      | exact .same hr (.refl _) (.int _ _)
      | exact .same hr (.refl _) (.bool _)
theorem A8 {P : Program} {op : BinOp} {k k' : IntKind} {a b : Int} (h : (cJ op k a b).run s = .ok v s') (ho : bU s') (hr : Rel P ρ m s.heap.get w) (t : TypeId) :
    Out P ρ m s w s' v ((Go.binOp op t (.int k a) (.int k' b)).run P w) := by
  obtain ⟨_, s1, h1, h2, ho1, _, _⟩ := M.aL h ho
  obtain ⟨h3, e⟩ := eF h1 ho1
  have hb : ¬ b < 0 := by have := of_decide_eq_true h3; omega
  cases op <;> simp only at h2
  case shl =>
    obtain ⟨rfl, rfl⟩ := aE h2
    simp only [Go.binOp, Op.shift, hb, if_false, Sem.run_pure]
    exact .same hr e (.int _ _)
  case shr =>
    obtain ⟨rfl, rfl⟩ := aE h2
    simp only [Go.binOp, Op.shift, hb, if_false, Sem.run_pure]
    exact .same hr e (.int _ _)
  all_goals exact (aG h2).elim
theorem toList_eq (l : List UInt8) : (⟨⟨l⟩⟩ : ByteArray).toList = l := by
  rw [ByteArray.toList_eq]
theorem FD {P : Program} {op : BinOp} {x y : List UInt8} (h : (strOp op x y).run s = .ok v s') (ho : bU s') (hr : Rel P ρ m s.heap.get w) (t : TypeId) :
    Out P ρ m s w s' v ((Go.binOp op t (.string ⟨⟨x⟩⟩) (.string ⟨⟨y⟩⟩)).run P w) := by
  cases op <;> simp only [strOp] at h
  case add =>
    obtain ⟨_, s1, h1, h2, ho1, _, _⟩ := M.aL h ho
    obtain ⟨h3, e⟩ := eF h1 ho1
    obtain ⟨rfl, rfl⟩ := aE h2
    have h4 := of_decide_eq_true h3
    have hsz : ¬ ((((⟨⟨x⟩⟩ : ByteArray).size + (⟨⟨y⟩⟩ : ByteArray).size : Nat) : Int) > IntKind.i64.max) := by
      have e1 : (⟨⟨x⟩⟩ : ByteArray).size = x.length := rfl
      have e2 : (⟨⟨y⟩⟩ : ByteArray).size = y.length := rfl
      have e3 : IntKind.i64.max = 9223372036854775807 := rfl
      rw [e1, e2, e3]; omega
    have happ : (⟨⟨x⟩⟩ ++ ⟨⟨y⟩⟩ : ByteArray) = ⟨⟨x ++ y⟩⟩ := by
      have : (⟨⟨x⟩⟩ ++ ⟨⟨y⟩⟩ : ByteArray).data = ⟨x ++ y⟩ := by rw [ByteArray.data_append]; simp
      cases hh : (⟨⟨x⟩⟩ ++ ⟨⟨y⟩⟩ : ByteArray) with
      | mk d => rw [hh] at this; simp only at this; rw [this]
    simp only [Go.binOp, Op.stringOp, hsz, if_false, Sem.run_pure, happ]
    exact .same hr e (.str _)
  all_goals
    first
      | exact (aG h).elim
      | (obtain ⟨rfl, rfl⟩ := aE h
         simp only [Go.binOp, Op.stringOp, Sem.run_pure, toList_eq]
         exact .same hr (.refl _) (.bool _))
theorem pF {a : a9} {b : Bool} (h : (cE a).run s = .ok b s') {x : Value} (hx : R ρ m a x) : s' = s ∧ x = .bool b := by
  unfold cE at h
  split at h
  · obtain ⟨rfl, rfl⟩ := aE h; exact ⟨rfl, hx.jB⟩
  · obtain ⟨rfl, rfl⟩ := aE h; exact ⟨rfl, hx.oL⟩
  · exact (aG h).elim
theorem oV {a : a9} {b : Bool} (h : (cD a).run s = .ok b s') {x : Value} (hx : R ρ m a x) : s' = s ∧ ((b = true ∧ x = .pointer none) ∨ (b = false ∧ ∃ ad, x = .pointer (some ad))) := by
  unfold cD at h
  split at h
  · obtain ⟨rfl, rfl⟩ := aE h; cases hx; exact ⟨rfl, .inl ⟨rfl, rfl⟩⟩
  · obtain ⟨rfl, rfl⟩ := aE h; cases hx; exact ⟨rfl, .inr ⟨rfl, _, rfl⟩⟩
  · obtain ⟨rfl, rfl⟩ := aE h; cases hx; exact ⟨rfl, .inr ⟨rfl, _, rfl⟩⟩
  · exact (aG h).elim
theorem qW {a : a9} {b : Bool} (h : (cR a).run s = .ok b s') {x : Value} (hx : R ρ m a x) : s' = s ∧ ((b = true ∧ x = .nilFunc) ∨ (b = false ∧ ∃ f p q, x = .func f p q)) := by
  unfold cR at h
  split at h
  · obtain ⟨rfl, rfl⟩ := aE h; cases hx; exact ⟨rfl, .inl ⟨rfl, rfl⟩⟩
  · obtain ⟨rfl, rfl⟩ := aE h; cases hx; exact ⟨rfl, .inr ⟨rfl, _, _, _, rfl⟩⟩
  · exact (aG h).elim
theorem qV {a : a9} {b : Bool} (h : (nU a).run s = .ok b s') {x : Value} (hx : R ρ m a x) : s' = s ∧ ((b = true ∧ x = .slice none 0 0) ∨ (b = false ∧ ∃ ad l c, x = .slice (some ad) l c)) := by
  unfold nU at h
  split at h
  · obtain ⟨rfl, rfl⟩ := aE h; cases hx; exact ⟨rfl, .inl ⟨rfl, rfl⟩⟩
  · obtain ⟨rfl, rfl⟩ := aE h; cases hx <;> exact ⟨rfl, .inr ⟨rfl, _, _, _, rfl⟩⟩
  · obtain ⟨rfl, rfl⟩ := aE h; cases hx <;> exact ⟨rfl, .inr ⟨rfl, _, _, _, rfl⟩⟩
  · exact (aG h).elim
theorem oW {a : a9} {b : Bool} (h : (zA a).run s = .ok b s') {x : Value} (hx : R ρ m a x) : s' = s ∧ ((b = true ∧ x = .map none) ∨ (b = false ∧ ∃ r, x = .map (some r))) := by
  unfold zA at h
  split at h
  · obtain ⟨rfl, rfl⟩ := aE h; cases hx; exact ⟨rfl, .inl ⟨rfl, rfl⟩⟩
  · obtain ⟨rfl, rfl⟩ := aE h; cases hx; exact ⟨rfl, .inr ⟨rfl, _, rfl⟩⟩
  · exact (aG h).elim
theorem uF : ∀ (l : List (QE E.P)) (t : Nat), xA E l t = true → E.P.stoodInHeld t = false ∧ E.P.eqGuardType E.P.depth t = false
  | [], _, h => by cases h
  | q :: l, t, h => by
    simp only [xA, Bool.or_eq_true] at h
    rcases h with h | h
    · have := Nat.eq_of_beq_eq_true h
      rw [← this]
      exact ⟨q.held, q.guard⟩
    · exact uF l t h
def rJ (d : Nat) (e : TypeId) (n : Nat) (xs ys : Array Value) : List Nat → Sem Bool
  | [] => pure true
  | i :: l => do
      let a ← Go.part e xs (i * n)
      let b ← Go.part e ys (i * n)
      let r ← Op.equalIn d e a b
      if (!r) = true then pure false else rJ d e n xs ys l
theorem run_equalIn_array {P : Program} (w : World) (d : Nat) (t : TypeId) (xs ys : Array Value) {n : Nat} {e : TypeId} {z : Nat} (ht : P.underlying t = some (.array n e)) (hz : ∀ {w : World}, (Go.sizeOf e).run P w = .ok z w) :
    (Op.equalIn (d + 1) t (.agg xs) (.agg ys)).run P w = (rJ d e z xs ys (List.range n)).run P w := by
  simp only [Op.equalIn, Sem.run_bind, run_underlying ht, Result.andThen_ok, hz]
  rw [Std.Legacy.Range.forIn_eq_forIn_range']
  simp only [Std.Legacy.Range.size, Nat.sub_zero, Nat.add_sub_cancel, Nat.div_one, ← List.range_eq_range']
  generalize List.range n = fs
  clear ht
  induction fs generalizing w with
  | nil => simp [rJ]
  | cons f fs ih =>
    simp only [List.forIn_cons, rJ, Sem.run_bind, Sem.run_ite]
    generalize (Go.part e xs (f * z)).run P w = r1
    cases r1 with
    | ok a w1 =>
      simp only [Result.andThen_ok]
      generalize (Go.part e ys (f * z)).run P w1 = r2
      cases r2 with
      | ok b w2 =>
        simp only [Result.andThen_ok]
        generalize (Op.equalIn d e a b).run P w2 = r3
        cases r3 with
        | ok r w3 =>
          cases r
          · simp only [Result.andThen_ok, Bool.not_false, if_true, Sem.run_pure]
          · simp only [Result.andThen_ok, Bool.not_true, Bool.false_eq_true, if_false, Sem.run_pure]
            exact ih w3
        | halt x w3 => simp [Result.andThen]
      | halt x w2 => simp [Result.andThen]
    | halt x w1 => simp [Result.andThen]
theorem sR : ∀ (d k : Nat) {t : TypeId} {a b : a9} {c : Bool} {s s' : St}, (equal E d t a b).run s = .ok c s' → bU s' → ∀ {x y : Value}, R ρ m a x → R ρ m b y → ∀ w : World,
    fM s s' ∧ (Op.equalIn (d + k) t x y).run E.P w = .ok c w := by
  intro d
  induction d with
  | zero => intro k t a b c s s' h; exact (aG h).elim
  | succ d ih =>
    intro k t a b c s s' h ho x y hx hy w
    obtain ⟨u, s1, h1, h2⟩ := M.aM h
    obtain ⟨⟨i, hi, rfl⟩, rfl⟩ := eM h1
    have hu := hi.dR (w := w)
    have ek : d + 1 + k = (d + k) + 1 := by omega
    rw [ek]
    cases hd : i.desc with
    | bool =>
      rw [hd] at h2 hu
      obtain ⟨p, s2, h3, h4⟩ := M.aM h2
      obtain ⟨rfl, rfl⟩ := pF h3 hx
      obtain ⟨q, s3, h5, h6⟩ := M.aM h4
      obtain ⟨rfl, rfl⟩ := pF h5 hy
      obtain ⟨rfl, rfl⟩ := aE h6
      exact ⟨.refl _, by simp only [Op.equalIn, Sem.run_bind, hu, Result.andThen_ok, Sem.run_pure]⟩
    | int kk =>
      rw [hd] at h2 hu
      simp only at h2
      split at h2
      · split at h2
        · rename_i k1 n1 _ k2 n2
          split at h2
          · rename_i hk
            have hk' : k1 = k2 := of_decide_eq_true hk
            subst hk'
            obtain ⟨rfl, rfl⟩ := aE h2
            obtain rfl := hx.cQ
            obtain rfl := hy.cQ
            exact ⟨.refl _, by simp only [Op.equalIn, Sem.run_bind, hu, Result.andThen_ok, if_true, Sem.run_pure]⟩
          · exact (aG h2).elim
        · exact (aG h2).elim
      · exact (aG h2).elim
    | string =>
      rw [hd] at h2 hu
      obtain ⟨l, rfl, h3⟩ := kT h2
      obtain ⟨l', rfl, h4⟩ := kT h3
      obtain ⟨rfl, rfl⟩ := aE h4
      obtain rfl := hx.fT
      obtain rfl := hy.fT
      refine ⟨.refl _, ?_⟩
      have : ((⟨⟨l⟩⟩ : ByteArray) == ⟨⟨l'⟩⟩) = (l == l') := by
        rw [beq_toListBytes, toList_eq, toList_eq]
      simp only [Op.equalIn, Sem.run_bind, hu, Result.andThen_ok, Sem.run_pure, this]
    | pointer e =>
      rw [hd] at h2 hu
      obtain ⟨p, s2, h3, h4⟩ := M.aM h2
      obtain ⟨rfl, hp⟩ := oV h3 hx
      obtain ⟨q, s3, h5, h6⟩ := M.aM h4
      obtain ⟨rfl, hq⟩ := oV h5 hy
      rcases hp with ⟨rfl, rfl⟩ | ⟨rfl, ad, rfl⟩
      · obtain ⟨rfl, rfl⟩ := aE h6
        rcases hq with ⟨rfl, rfl⟩ | ⟨rfl, ad, rfl⟩
        · exact ⟨.refl _, by simp only [Op.equalIn, Sem.run_bind, hu, Result.andThen_ok, Sem.run_pure]; rfl⟩
        · exact ⟨.refl _, by simp only [Op.equalIn, Sem.run_bind, hu, Result.andThen_ok, Sem.run_pure]; rfl⟩
      · rcases hq with ⟨rfl, rfl⟩ | ⟨rfl, ad', rfl⟩
        · obtain ⟨rfl, rfl⟩ := aE h6
          exact ⟨.refl _, by simp only [Op.equalIn, Sem.run_bind, hu, Result.andThen_ok, Sem.run_pure]; rfl⟩
        · exact (aG h6).elim
    | func a1 b1 c1 =>
      rw [hd] at h2 hu
      obtain ⟨p, s2, h3, h4⟩ := M.aM h2
      obtain ⟨rfl, hp⟩ := qW h3 hx
      obtain ⟨q, s3, h5, h6⟩ := M.aM h4
      obtain ⟨rfl, hq⟩ := qW h5 hy
      rcases hp with ⟨rfl, rfl⟩ | ⟨rfl, f, pp, qq, rfl⟩
      · obtain ⟨rfl, rfl⟩ := aE h6
        rcases hq with ⟨rfl, rfl⟩ | ⟨rfl, f, pp, qq, rfl⟩
        · exact ⟨.refl _, by simp only [Op.equalIn, Sem.run_bind, hu, Result.andThen_ok, Sem.run_pure, Bool.and_self]⟩
        · exact ⟨.refl _, by simp only [Op.equalIn, Sem.run_bind, hu, Result.andThen_ok, Sem.run_pure, Bool.and_false]⟩
      · rcases hq with ⟨rfl, rfl⟩ | ⟨rfl, f', pp', qq', rfl⟩
        · obtain ⟨rfl, rfl⟩ := aE h6
          exact ⟨.refl _, by simp only [Op.equalIn, Sem.run_bind, hu, Result.andThen_ok, Sem.run_pure]; rfl⟩
        · exact (aG h6).elim
    | slice e =>
      rw [hd] at h2 hu
      obtain ⟨p, s2, h3, h4⟩ := M.aM h2
      obtain ⟨rfl, hp⟩ := qV h3 hx
      obtain ⟨q, s3, h5, h6⟩ := M.aM h4
      obtain ⟨rfl, hq⟩ := qV h5 hy
      rcases hp with ⟨rfl, rfl⟩ | ⟨rfl, ad, l1, c1, rfl⟩
      · obtain ⟨rfl, rfl⟩ := aE h6
        rcases hq with ⟨rfl, rfl⟩ | ⟨rfl, ad, l1, c1, rfl⟩
        · exact ⟨.refl _, by simp only [Op.equalIn, Sem.run_bind, hu, Result.andThen_ok, Sem.run_pure]; rfl⟩
        · exact ⟨.refl _, by simp only [Op.equalIn, Sem.run_bind, hu, Result.andThen_ok, Sem.run_pure]; rfl⟩
      · rcases hq with ⟨rfl, rfl⟩ | ⟨rfl, ad', l2, c2, rfl⟩
        · obtain ⟨rfl, rfl⟩ := aE h6
          exact ⟨.refl _, by simp only [Op.equalIn, Sem.run_bind, hu, Result.andThen_ok, Sem.run_pure]; rfl⟩
        · exact (aG h6).elim
    | map k1 e1 =>
      rw [hd] at h2 hu
      obtain ⟨p, s2, h3, h4⟩ := M.aM h2
      obtain ⟨rfl, hp⟩ := oW h3 hx
      obtain ⟨q, s3, h5, h6⟩ := M.aM h4
      obtain ⟨rfl, hq⟩ := oW h5 hy
      rcases hp with ⟨rfl, rfl⟩ | ⟨rfl, r, rfl⟩
      · obtain ⟨rfl, rfl⟩ := aE h6
        rcases hq with ⟨rfl, rfl⟩ | ⟨rfl, r, rfl⟩
        · exact ⟨.refl _, by simp only [Op.equalIn, Sem.run_bind, hu, Result.andThen_ok, Sem.run_pure]; rfl⟩
        · exact ⟨.refl _, by simp only [Op.equalIn, Sem.run_bind, hu, Result.andThen_ok, Sem.run_pure]; rfl⟩
      · rcases hq with ⟨rfl, rfl⟩ | ⟨rfl, r', rfl⟩
        · obtain ⟨rfl, rfl⟩ := aE h6
          exact ⟨.refl _, by simp only [Op.equalIn, Sem.run_bind, hu, Result.andThen_ok, Sem.run_pure]; rfl⟩
        · exact (aG h6).elim
    | struct fs =>
      rw [hd] at h2 hu
      simp only at h2
      split at h2
      · rename_i hq
        obtain ⟨hheld, _⟩ := uF _ _ hq
        obtain ⟨l, rfl, h3⟩ := kB h2
        obtain ⟨l', rfl, h4⟩ := kB h3
        obtain ⟨xs, rfl, hxs⟩ := hx.gY
        obtain ⟨ys, rfl, hys⟩ := hy.gY
        have hfs : E.P.fieldsOf t = fs := by simp [Program.fieldsOf, hi.und, hd]
        have hut : E.P.underlying t = some (.struct (E.P.fieldsOf t)) := by rw [hfs, hi.und, hd]
        rw [run_equalIn_struct w (d + k) t xs ys hut hheld, hfs]
        clear h1 h2 h3 h hx hy
        revert c s1 s'
        induction fs.toList with
        | nil =>
          intro c s' ho s1 h
          obtain ⟨rfl, rfl⟩ := aE h
          exact ⟨.refl _, rfl⟩
        | cons f fl ihl =>
          intro c s' ho s1 h
          obtain ⟨p, s2, h5, h6, ho2, _, _⟩ := M.aL h ho
          obtain ⟨q, s3, h7, h8, ho3, _, _⟩ := M.aL h6 ho
          obtain ⟨rfl, rfl⟩ := aE h8
          obtain ⟨e2, r2⟩ := ihl ho3 _ h7
          simp only at h5
          split at h5
          · rename_i hn
            have hn' : f.name = "_" := of_decide_eq_true hn
            obtain ⟨rfl, rfl⟩ := aE h5
            refine ⟨e2, ?_⟩
            simp only [Op.eqFields, hn', ne_eq, not_true_eq_false, if_false, r2, Bool.true_and]
          · rename_i hn
            have hn' : ¬ f.name = "_" := of_decide_eq_false hn
            obtain ⟨a1, s4, k1, k2⟩ := M.aM h5
            obtain ⟨rfl, xa, k3, k4⟩ := jV k1 hxs w
            obtain ⟨b1, s5, k5, k6⟩ := M.aM k2
            obtain ⟨rfl, ya, k7, k8⟩ := jV k5 hys w
            obtain ⟨e1, r1⟩ := ih k k6 ho2 k4 k8 w
            refine ⟨e1.trans e2, ?_⟩
            simp only [Op.eqFields, ne_eq, hn', not_false_eq_true, if_true, Sem.run_bind, k3, k7, r1, Result.andThen_ok]
            cases p
            · simp
            · simp [r2]
      · exact (aG h2).elim
    | array n e =>
      rw [hd] at h2 hu
      simp only at h2
      split at h2
      · obtain ⟨l, rfl, h3⟩ := kB h2
        obtain ⟨l', rfl, h4⟩ := kB h3
        obtain ⟨xs, rfl, hxs⟩ := hx.gY
        obtain ⟨ys, rfl, hys⟩ := hy.gY
        obtain ⟨z, s2, h5, h6⟩ := M.aM h4
        obtain ⟨⟨j, hj, rfl⟩, rfl⟩ := fR h5
        rw [run_equalIn_array w (d + k) t xs ys (by rw [hi.und, hd]) hj.dJ]
        clear h1 h2 h3 h4 h5 h hx hy
        revert c s2 s'
        induction List.range n with
        | nil =>
          intro c s' ho s2 h
          obtain ⟨rfl, rfl⟩ := aE h
          exact ⟨.refl _, rfl⟩
        | cons q ql ihl =>
          intro c s' ho s2 h
          obtain ⟨p, s3, h5, h6, ho2, _, _⟩ := M.aL h ho
          obtain ⟨q1, s4, h7, h8, ho3, _, _⟩ := M.aL h6 ho
          obtain ⟨rfl, rfl⟩ := aE h8
          obtain ⟨e2, r2⟩ := ihl ho3 _ h7
          obtain ⟨a1, s5, k1, k2⟩ := M.aM h5
          obtain ⟨rfl, xa, k3, k4⟩ := jV k1 hxs w
          obtain ⟨b1, s6, k5, k6⟩ := M.aM k2
          obtain ⟨rfl, ya, k7, k8⟩ := jV k5 hys w
          obtain ⟨e1, r1⟩ := ih k k6 ho2 k4 k8 w
          refine ⟨e1.trans e2, ?_⟩
          simp only [rJ, Sem.run_bind, k3, k7, r1, Result.andThen_ok]
          cases p
          · simp
          · simp [r2]
      · exact (aG h2).elim
    | _ => rw [hd] at h2; exact (aG h2).elim
end
end Go.Am
