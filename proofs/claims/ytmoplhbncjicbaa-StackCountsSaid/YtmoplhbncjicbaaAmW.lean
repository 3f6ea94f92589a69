/- The abstract machine's operations do what the model's do: binary and unary operators, conversions, copy, make. -/
import Derived.Test.YtmoplhbncjicbaaAmV
set_option linter.unusedSimpArgs false
set_option linter.unusedVariables false
namespace Go.Am
open Go

variable {E : Env}
section
variable {ρ : Ren} {m : Mem} {s s' : St} {w : World} {v : AVal}

/-- Values that were compared, as they stand. -/
inductive Cmp (P : Program) (t : TypeId) : Value → Value → Prop
  | bool (a b : Bool) : Cmp P t (.bool a) (.bool b)
  | int (k : IntKind) (a b : Int) : Cmp P t (.int k a) (.int k b)
  | str (a b : ByteArray) : Cmp P t (.string a) (.string b)
  | ptr (a b : Option Addr) : Cmp P t (.pointer a) (.pointer b)
  | fnn : Cmp P t .nilFunc .nilFunc
  | fnf (f : Fn) (a b : Array Value) : Cmp P t .nilFunc (.func f a b)
  | ffn (f : Fn) (a b : Array Value) : Cmp P t (.func f a b) .nilFunc
  | sl (a b : Option Addr) (l c l' c' : Nat) : Cmp P t (.slice a l c) (.slice b l' c')
  | mp (a b : Option Nat) : Cmp P t (.map a) (.map b)
  | agg (a b : Array Value) (h : P.eqGuardType P.depth t = false) : Cmp P t (.agg a) (.agg b)
theorem equal_cmp {d : Nat} {t : TypeId} {a b : AVal} {c : Bool} (h : (equal E (d + 1) t a b).run s = .ok c s') {x y : Value} (hx : R ρ m a x) (hy : R ρ m b y) : Cmp E.P t x y := by
  obtain ⟨u, s1, h1, h2⟩ := M.bind_ok h
  cases u with
  | bool =>
    obtain ⟨p, s2, h3, h4⟩ := M.bind_ok h2
    obtain ⟨rfl, rfl⟩ := boolOf_ok h3 hx
    obtain ⟨q, s3, h5, h6⟩ := M.bind_ok h4
    obtain ⟨rfl, rfl⟩ := boolOf_ok h5 hy
    exact .bool _ _
  | int kk =>
    simp only at h2
    split at h2
    · split at h2
      · rename_i k1 n1 _ k2 n2
        split at h2
        · rename_i hk
          have hk' : k1 = k2 := of_decide_eq_true hk
          subst hk'
          obtain rfl := hx.int_inv
          obtain rfl := hy.int_inv
          exact .int _ _ _
        · exact (fail_ok h2).elim
      · exact (fail_ok h2).elim
    · exact (fail_ok h2).elim
  | string =>
    obtain ⟨l, rfl, h3⟩ := str_ok h2
    obtain ⟨l', rfl, h4⟩ := str_ok h3
    obtain rfl := hx.str_inv
    obtain rfl := hy.str_inv
    exact .str _ _
  | pointer e =>
    obtain ⟨p, s2, h3, h4⟩ := M.bind_ok h2
    obtain ⟨rfl, hp⟩ := nilPtr_ok h3 hx
    obtain ⟨q, s3, h5, h6⟩ := M.bind_ok h4
    obtain ⟨rfl, hq⟩ := nilPtr_ok h5 hy
    rcases hp with ⟨rfl, rfl⟩ | ⟨rfl, ad, rfl⟩ <;> rcases hq with ⟨rfl, rfl⟩ | ⟨rfl, ad', rfl⟩ <;> exact .ptr _ _
  | func a1 b1 c1 =>
    obtain ⟨p, s2, h3, h4⟩ := M.bind_ok h2
    obtain ⟨rfl, hp⟩ := nilFn_ok h3 hx
    obtain ⟨q, s3, h5, h6⟩ := M.bind_ok h4
    obtain ⟨rfl, hq⟩ := nilFn_ok h5 hy
    rcases hp with ⟨rfl, rfl⟩ | ⟨rfl, f, pp, qq, rfl⟩
    · rcases hq with ⟨rfl, rfl⟩ | ⟨rfl, f, pp, qq, rfl⟩
      · exact .fnn
      · exact .fnf _ _ _
    · rcases hq with ⟨rfl, rfl⟩ | ⟨rfl, f', pp', qq', rfl⟩
      · exact .ffn _ _ _
      · exact (fail_ok h6).elim
  | slice e =>
    obtain ⟨p, s2, h3, h4⟩ := M.bind_ok h2
    obtain ⟨rfl, hp⟩ := nilSl_ok h3 hx
    obtain ⟨q, s3, h5, h6⟩ := M.bind_ok h4
    obtain ⟨rfl, hq⟩ := nilSl_ok h5 hy
    rcases hp with ⟨rfl, rfl⟩ | ⟨rfl, ad, l1, c1, rfl⟩ <;> rcases hq with ⟨rfl, rfl⟩ | ⟨rfl, ad', l2, c2, rfl⟩ <;> exact .sl _ _ _ _ _ _
  | map k1 e1 =>
    obtain ⟨p, s2, h3, h4⟩ := M.bind_ok h2
    obtain ⟨rfl, hp⟩ := nilMap_ok h3 hx
    obtain ⟨q, s3, h5, h6⟩ := M.bind_ok h4
    obtain ⟨rfl, hq⟩ := nilMap_ok h5 hy
    rcases hp with ⟨rfl, rfl⟩ | ⟨rfl, r, rfl⟩ <;> rcases hq with ⟨rfl, rfl⟩ | ⟨rfl, r', rfl⟩ <;> exact .mp _ _
  | struct fs =>
    simp only at h2
    split at h2
    · rename_i hq
      obtain ⟨_, hgd⟩ := eqAt_ok _ _ hq
      obtain ⟨l, rfl, h3⟩ := agg_ok h2
      obtain ⟨l', rfl, h4⟩ := agg_ok h3
      obtain ⟨xs, rfl, hxs⟩ := hx.agg_inv
      obtain ⟨ys, rfl, hys⟩ := hy.agg_inv
      exact .agg _ _ hgd
    · exact (fail_ok h2).elim
  | array n e =>
    simp only at h2
    split at h2
    · rename_i hq
      obtain ⟨_, hgd⟩ := eqAt_ok _ _ hq
      obtain ⟨l, rfl, h3⟩ := agg_ok h2
      obtain ⟨l', rfl, h4⟩ := agg_ok h3
      obtain ⟨xs, rfl, hxs⟩ := hx.agg_inv
      obtain ⟨ys, rfl, hys⟩ := hy.agg_inv
      exact .agg _ _ hgd
    · exact (fail_ok h2).elim
  | _ => exact (fail_ok h2).elim
theorem Cmp.guard {P : Program} {t : TypeId} {x y : Value} (h : Cmp P t x y) (op : BinOp) (a b : Operand) : (eqGuard op t a b x y).run P w = .ok () w := by
  cases h with
  | agg xs ys hg => exact run_eqGuard_agg w op t a b xs ys hg
  | ptr p q => cases op <;> cases p <;> cases q <;> rfl
  | _ => cases op <;> rfl
theorem guard_int {P : Program} (op : BinOp) (t : TypeId) (a b : Operand) (k k' : IntKind) (x y : Int) : (eqGuard op t a b (.int k x) (.int k' y)).run P w = .ok () w := by
  cases op <;> rfl
theorem guard_str {P : Program} (op : BinOp) (t : TypeId) (a b : Operand) (x y : ByteArray) : (eqGuard op t a b (.string x) (.string y)).run P w = .ok () w := by
  cases op <;> rfl
theorem binOther_sim {op : BinOp} {t : TypeId} {a b : AVal} (h : (binOther E op t a b).run s = .ok v s') (ho : OkObs s') (hr : Rel E.P ρ m s.heap.get w) {x y : Value} (hx : R ρ m a x) (hy : R ρ m b y)
    (hni : ∀ k n, a ≠ .int k n) (hns : ∀ l, a ≠ .str l) (ox oy : Operand) : Out E.P ρ m s w s' v ((do eqGuard op t ox oy x y; Go.binOp op t x y : Sem Value).run E.P w) := by
  have key : ∀ c s1, (equalTop E t a b).run s = .ok c s1 → OkObs s1 → Same s s1 ∧ (Op.equal t x y).run E.P w = .ok c w ∧ Cmp E.P t x y := fun c s1 he ho1 => by
    obtain ⟨e, r⟩ := equal_sim 100 9900 he ho1 hx hy w
    exact ⟨e, r, equal_cmp he hx hy⟩
  have shape : ∀ x y, Cmp E.P t x y → (∀ k n, x ≠ .int k n) → (∀ l, x ≠ .string l) → Go.binOp .eql t x y = (do pure (.bool (← Op.equal t x y)) : Sem Value) ∧ Go.binOp .neq t x y = (do pure (.bool (!(← Op.equal t x y))) : Sem Value) := by
    intro x y hc h1 h2
    cases hc with
    | int k a b => exact absurd rfl (h1 k a)
    | str a b => exact absurd rfl (h2 a)
    | ptr p q => cases p <;> cases q <;> exact ⟨rfl, rfl⟩
    | _ => exact ⟨rfl, rfl⟩
  have nx : ∀ k n, x ≠ .int k n := by
    rintro k n rfl
    cases hx with
    | int => exact hni _ _ rfl
    | junk =>
      unfold binOther at h
      split at h
      · obtain ⟨c, s1, he, _, ho1, _, _⟩ := M.bind_did h ho
        obtain ⟨u, s2, h1, h2⟩ := M.bind_ok he
        cases u with
        | struct fs => simp only at h2; split at h2 <;> exact (fail_ok h2).elim
        | array fs n => simp only at h2; split at h2 <;> exact (fail_ok h2).elim
        | _ => exact (fail_ok h2).elim
      · obtain ⟨c, s1, he, _, ho1, _, _⟩ := M.bind_did h ho
        obtain ⟨u, s2, h1, h2⟩ := M.bind_ok he
        cases u with
        | struct fs => simp only at h2; split at h2 <;> exact (fail_ok h2).elim
        | array fs n => simp only at h2; split at h2 <;> exact (fail_ok h2).elim
        | _ => exact (fail_ok h2).elim
      · exact (fail_ok h).elim
  have ny : ∀ k, x ≠ .string k := by
    rintro k rfl
    cases hx with
    | str => exact hns _ rfl
    | junk =>
      unfold binOther at h
      split at h
      · obtain ⟨c, s1, he, _, ho1, _, _⟩ := M.bind_did h ho
        obtain ⟨u, s2, h1, h2⟩ := M.bind_ok he
        cases u with
        | struct fs => simp only at h2; split at h2 <;> exact (fail_ok h2).elim
        | array fs n => simp only at h2; split at h2 <;> exact (fail_ok h2).elim
        | _ => exact (fail_ok h2).elim
      · obtain ⟨c, s1, he, _, ho1, _, _⟩ := M.bind_did h ho
        obtain ⟨u, s2, h1, h2⟩ := M.bind_ok he
        cases u with
        | struct fs => simp only at h2; split at h2 <;> exact (fail_ok h2).elim
        | array fs n => simp only at h2; split at h2 <;> exact (fail_ok h2).elim
        | _ => exact (fail_ok h2).elim
      · exact (fail_ok h).elim
  unfold binOther at h
  split at h
  · obtain ⟨c, s1, he, h2, ho1, _, _⟩ := M.bind_did h ho
    obtain ⟨rfl, rfl⟩ := pure_ok h2
    obtain ⟨e, r, hc⟩ := key c _ he ho1
    simp only [Sem.run_bind, hc.guard, Result.andThen_ok, (shape x y hc nx ny).1, r, Sem.run_pure]
    exact .same hr e (.bool _)
  · obtain ⟨c, s1, he, h2, ho1, _, _⟩ := M.bind_did h ho
    obtain ⟨rfl, rfl⟩ := pure_ok h2
    obtain ⟨e, r, hc⟩ := key c _ he ho1
    simp only [Sem.run_bind, hc.guard, Result.andThen_ok, (shape x y hc nx ny).2, r, Sem.run_pure]
    exact .same hr e (.bool _)
  · exact (fail_ok h).elim
theorem binOp_sim {op : BinOp} {t : TypeId} {a b : AVal} (h : (binOp E op t a b).run s = .ok v s') (ho : OkObs s') (hr : Rel E.P ρ m s.heap.get w) {x y : Value} (hx : R ρ m a x) (hy : R ρ m b y) (ox oy : Operand) :
    Out E.P ρ m s w s' v ((do eqGuard op t ox oy x y; Go.binOp op t x y : Sem Value).run E.P w) := by
  unfold binOp at h
  split at h
  · rename_i k n
    obtain rfl := hx.int_inv
    unfold binInt at h
    split at h
    · rename_i k' n'
      obtain rfl := hy.int_inv
      simp only [Sem.run_bind, guard_int, Result.andThen_ok]
      split at h
      · exact shiftOp_sim h ho hr t
      · split at h
        · rename_i hk
          have hk' : k = k' := of_decide_eq_true hk
          subst hk'
          exact intOp_sim h ho hr t
        · exact (fail_ok h).elim
    · exact (fail_ok h).elim
  · obtain ⟨l, rfl, h2⟩ := str_ok h
    obtain rfl := hx.str_inv
    obtain rfl := hy.str_inv
    simp only [Sem.run_bind, guard_str, Result.andThen_ok]
    exact strOp_sim h2 ho hr t
  · rename_i h1 h2
    exact binOther_sim h ho hr hx hy (fun k n e => h1 k n e) (fun l e => h2 l e) ox oy
theorem unOp_sim {P : Program} {op : UnOp} {a : AVal} (h : (unOp op a).run s = .ok v s') (ho : OkObs s') (hr : Rel P ρ m s.heap.get w) {x : Value} (hx : R ρ m a x) :
    Out P ρ m s w s' v ((Op.unary op x).run P w) := by
  unfold unOp at h
  split at h
  · split at h
    · obtain ⟨rfl, rfl⟩ := pure_ok h
      obtain rfl := hx.int_inv
      exact .same hr (.refl _) (.int _ _)
    · exact (fail_ok h).elim
  · split at h
    · obtain ⟨rfl, rfl⟩ := pure_ok h
      obtain rfl := hx.int_inv
      exact .same hr (.refl _) (.int _ _)
    · exact (fail_ok h).elim
  · split at h
    · obtain ⟨rfl, rfl⟩ := pure_ok h
      obtain rfl := hx.bool_inv
      exact .same hr (.refl _) (.bool _)
    · obtain ⟨rfl, rfl⟩ := pure_ok h
      obtain rfl := hx.blit_inv
      exact .same hr (.refl _) (.blit _)
    · exact (fail_ok h).elim
  · exact (fail_ok h).elim
theorem extract_sim {P : Program} {i : Nat} {a : AVal} (h : (extract a i).run s = .ok v s') (hr : Rel P ρ m s.heap.get w) {x : Value} (hx : R ρ m a x) :
    Out P ρ m s w s' v ((Instr.extract x i).run P w) := by
  unfold extract at h
  split at h
  · rename_i l
    obtain ⟨hg, rfl⟩ := getO_ok h
    cases hx with
    | tup l c hl hrr =>
      have hi := (List.getElem?_eq_some_iff.1 hg).1
      have hc : c[i]? = some c[i] := Array.getElem?_eq_getElem (by omega)
      simp only [Instr.extract, hc, Sem.run_pure]
      exact .same hr (.refl _) (hrr i v _ hg hc)
  · exact (fail_ok h).elim
theorem min2_sim {P : Program} {a b : AVal} (h : (min2 a b).run s = .ok v s') (hr : Rel P ρ m s.heap.get w) {x y : Value} (hx : R ρ m a x) (hy : R ρ m b y) :
    ∃ z, (Builtin.min2 x y).run P w = .ok z w ∧ R ρ m v z ∧ s' = s := by
  unfold min2 at h
  split at h
  · obtain ⟨q, n, rfl, h2⟩ := int_ok h
    obtain ⟨rfl, rfl⟩ := pure_ok h2
    obtain rfl := hx.int_inv
    obtain rfl := hy.int_inv
    exact ⟨_, rfl, .int _ _, rfl⟩
  · exact (fail_ok h).elim
theorem max2_sim {P : Program} {a b : AVal} (h : (max2 a b).run s = .ok v s') (hr : Rel P ρ m s.heap.get w) {x y : Value} (hx : R ρ m a x) (hy : R ρ m b y) :
    ∃ z, (Builtin.max2 x y).run P w = .ok z w ∧ R ρ m v z ∧ s' = s := by
  unfold max2 at h
  split at h
  · obtain ⟨q, n, rfl, h2⟩ := int_ok h
    obtain ⟨rfl, rfl⟩ := pure_ok h2
    obtain rfl := hx.int_inv
    obtain rfl := hy.int_inv
    exact ⟨_, rfl, .int _ _, rfl⟩
  · exact (fail_ok h).elim
/-- Lists of values, one to one. -/
inductive RV (ρ : Ren) (m : Mem) : List AVal → List Value → Prop
  | nil : RV ρ m [] []
  | cons {a : AVal} {x : Value} {l : List AVal} {xs : List Value} (h : R ρ m a x) (t : RV ρ m l xs) : RV ρ m (a :: l) (x :: xs)
theorem foldM2_sim {P : Program} {f : AVal → AVal → M AVal} {g : Value → Value → Sem Value} (hs : ∀ {s s' : St} {a b v : AVal}, (f a b).run s = .ok v s' → Rel P ρ m s.heap.get w → ∀ {x y : Value}, R ρ m a x → R ρ m b y →
      ∃ z, (g x y).run P w = .ok z w ∧ R ρ m v z ∧ s' = s) :
    ∀ {l : List AVal} {a v : AVal} {s s' : St}, (foldM2 f a l).run s = .ok v s' → Rel P ρ m s.heap.get w → ∀ {x : Value} {xs : List Value}, R ρ m a x → RV ρ m l xs → Out P ρ m s w s' v ((xs.foldlM g x).run P w) := by
  intro l
  induction l with
  | nil =>
    intro a v s s' h hr x xs hx hl
    obtain ⟨rfl, rfl⟩ := pure_ok h
    cases hl
    exact .same hr (.refl _) hx
  | cons b l ih =>
    intro a v s s' h hr x xs hx hl
    cases hl with
    | cons hb hl =>
      obtain ⟨c, s1, h1, h2⟩ := M.bind_ok h
      obtain ⟨z, k1, k2, rfl⟩ := hs h1 hr hx hb
      simp only [List.foldlM_cons, Sem.run_bind, k1, Result.andThen_ok]
      exact ih h2 hr k2 hl
end
end Go.Am
