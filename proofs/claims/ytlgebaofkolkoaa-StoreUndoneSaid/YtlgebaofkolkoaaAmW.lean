/- The abstract machine. -/
import Derived.Test.YtlgebaofkolkoaaAmV
set_option linter.unusedSimpArgs false
set_option linter.unusedVariables false
namespace Go.Am
open Go
variable {E : Env}
section
variable {ρ : Ren} {m : Mem} {s s' : St} {w : World} {v : a9}
inductive Cmp (P : Program) (t : TypeId) : Value → Value → Prop
  | bool (a b : Bool) : Cmp P t (.bool a) (.bool b)
  | int (k : IntKind) (a b : Int) : Cmp P t (.int k a) (.int k b)
  | str (a b : ByteArray) : Cmp P t (.string a) (.string b)
  | ptr (a b : Option Addr) : Cmp P t (.pointer a) (.pointer b)
  | fnn : Cmp P t .nilFunc .nilFunc
  | fnf (f : Fn) (a b : Array Value) : Cmp P t .nilFunc (.func f a b)
  | ffn (f : Fn) (a b : Array Value) : Cmp P t (.func f a b) .nilFunc
  | sl (a b : Option Addr) (l c l' c' : Nat) : Cmp P t (.slice a l c) (.slice b l' c')
  | mp (a b : Option Nat) : Cmp P t (.map a) (.map b)
  | agg (a b : Array Value) (h : P.eqGuardType P.depth t = false) : Cmp P t (.agg a) (.agg b)
theorem GJ {d : Nat} {t : TypeId} {a b : a9} {c : Bool} (h : (equal E (d + 1) t a b).run s = .ok c s') {x y : Value} (hx : R ρ m a x) (hy : R ρ m b y) : Cmp E.P t x y := by
  obtain ⟨u, s1, h1, h2⟩ := M.aM h
  cases u with
  | bool =>
    obtain ⟨p, s2, h3, h4⟩ := M.aM h2
    obtain ⟨rfl, rfl⟩ := pF h3 hx
    obtain ⟨q, s3, h5, h6⟩ := M.aM h4
    obtain ⟨rfl, rfl⟩ := pF h5 hy
    exact .bool _ _
  | int kk =>
    simp only at h2
    split at h2
    · split at h2
      · rename_i k1 n1 _ k2 n2
        split at h2
        · rename_i hk
          have hk' : k1 = k2 := of_decide_eq_true hk
          subst hk'
          obtain rfl := hx.cQ
          obtain rfl := hy.cQ
          exact .int _ _ _
        · exact (aG h2).elim
      · exact (aG h2).elim
    · exact (aG h2).elim
  | string =>
    obtain ⟨l, rfl, h3⟩ := kT h2
    obtain ⟨l', rfl, h4⟩ := kT h3
    obtain rfl := hx.fT
    obtain rfl := hy.fT
    exact .str _ _
  | pointer e =>
    obtain ⟨p, s2, h3, h4⟩ := M.aM h2
    obtain ⟨rfl, hp⟩ := oV h3 hx
    obtain ⟨q, s3, h5, h6⟩ := M.aM h4
    obtain ⟨rfl, hq⟩ := oV h5 hy
    rcases hp with ⟨rfl, rfl⟩ | ⟨rfl, ad, rfl⟩ <;> rcases hq with ⟨rfl, rfl⟩ | ⟨rfl, ad', rfl⟩ <;> exact .ptr _ _
  | func a1 b1 c1 =>
    obtain ⟨p, s2, h3, h4⟩ := M.aM h2
    obtain ⟨rfl, hp⟩ := qW h3 hx
    obtain ⟨q, s3, h5, h6⟩ := M.aM h4
    obtain ⟨rfl, hq⟩ := qW h5 hy
    rcases hp with ⟨rfl, rfl⟩ | ⟨rfl, f, pp, qq, rfl⟩
    · rcases hq with ⟨rfl, rfl⟩ | ⟨rfl, f, pp, qq, rfl⟩
      · exact .fnn
      · exact .fnf _ _ _
    · rcases hq with ⟨rfl, rfl⟩ | ⟨rfl, f', pp', qq', rfl⟩
      · exact .ffn _ _ _
      · exact (aG h6).elim
  | slice e =>
    obtain ⟨p, s2, h3, h4⟩ := M.aM h2
    obtain ⟨rfl, hp⟩ := qV h3 hx
    obtain ⟨q, s3, h5, h6⟩ := M.aM h4
    obtain ⟨rfl, hq⟩ := qV h5 hy
    rcases hp with ⟨rfl, rfl⟩ | ⟨rfl, ad, l1, c1, rfl⟩ <;> rcases hq with ⟨rfl, rfl⟩ | ⟨rfl, ad', l2, c2, rfl⟩ <;> exact .sl _ _ _ _ _ _
  | map k1 e1 =>
    obtain ⟨p, s2, h3, h4⟩ := M.aM h2
    obtain ⟨rfl, hp⟩ := oW h3 hx
    obtain ⟨q, s3, h5, h6⟩ := M.aM h4
    obtain ⟨rfl, hq⟩ := oW h5 hy
    rcases hp with ⟨rfl, rfl⟩ | ⟨rfl, r, rfl⟩ <;> rcases hq with ⟨rfl, rfl⟩ | ⟨rfl, r', rfl⟩ <;> exact .mp _ _
  | struct fs =>
    simp only at h2
    split at h2
    · rename_i hq
      obtain ⟨_, hgd⟩ := uF _ _ hq
      obtain ⟨l, rfl, h3⟩ := kB h2
      obtain ⟨l', rfl, h4⟩ := kB h3
      obtain ⟨xs, rfl, hxs⟩ := hx.gY
      obtain ⟨ys, rfl, hys⟩ := hy.gY
      exact .agg _ _ hgd
    · exact (aG h2).elim
  | array n e =>
    simp only at h2
    split at h2
    · rename_i hq
      obtain ⟨_, hgd⟩ := uF _ _ hq
      obtain ⟨l, rfl, h3⟩ := kB h2
      obtain ⟨l', rfl, h4⟩ := kB h3
      obtain ⟨xs, rfl, hxs⟩ := hx.gY
      obtain ⟨ys, rfl, hys⟩ := hy.gY
      exact .agg _ _ hgd
    · exact (aG h2).elim
  | _ => exact (aG h2).elim
theorem Cmp.guard {P : Program} {t : TypeId} {x y : Value} (h : Cmp P t x y) (op : BinOp) (a b : Operand) : (eqGuard op t a b x y).run P w = .ok () w := by
  cases h with
  | agg xs ys hg => exact run_eqGuard_agg w op t a b xs ys hg
  | ptr p q => cases op <;> cases p <;> cases q <;> rfl
  | _ => cases op <;> rfl
theorem GC {P : Program} (op : BinOp) (t : TypeId) (a b : Operand) (k k' : IntKind) (x y : Int) : (eqGuard op t a b (.int k x) (.int k' y)).run P w = .ok () w := by
  cases op <;> rfl
theorem GB {P : Program} (op : BinOp) (t : TypeId) (a b : Operand) (x y : ByteArray) : (eqGuard op t a b (.string x) (.string y)).run P w = .ok () w := by
  cases op <;> rfl
theorem zT {op : BinOp} {t : TypeId} {a b : a9} (h : (aY E op t a b).run s = .ok v s') (ho : bU s') (hr : Rel E.P ρ m s.heap.get w) {x y : Value} (hx : R ρ m a x) (hy : R ρ m b y)
    (hni : ∀ k n, a ≠ .int k n) (hns : ∀ l, a ≠ .str l) (ox oy : Operand) : Out E.P ρ m s w s' v ((do eqGuard op t ox oy x y; Go.binOp op t x y : Sem Value).run E.P w) := by
  have key : ∀ c s1, (bG E t a b).run s = .ok c s1 → bU s1 → fM s s1 ∧ (Op.equal t x y).run E.P w = .ok c w ∧ Cmp E.P t x y := fun c s1 he ho1 => by
    obtain ⟨e, r⟩ := sR 100 9900 he ho1 hx hy w
    exact ⟨e, r, GJ he hx hy⟩
  have shape : ∀ x y, Cmp E.P t x y → (∀ k n, x ≠ .int k n) → (∀ l, x ≠ .string l) → Go.binOp .eql t x y = (do pure (.bool (← Op.equal t x y)) : Sem Value) ∧ Go.binOp .neq t x y = (do pure (.bool (!(← Op.equal t x y))) : Sem Value) := by
    intro x y hc h1 h2
    cases hc with
    | int k a b => exact absurd rfl (h1 k a)
    | str a b => exact absurd rfl (h2 a)
    | ptr p q => cases p <;> cases q <;> exact ⟨rfl, rfl⟩
    | _ => exact ⟨rfl, rfl⟩
  have nx : ∀ k n, x ≠ .int k n := by
    rintro k n rfl
    cases hx with
    | int => exact hni _ _ rfl
    | junk =>
      unfold aY at h
      split at h
      · obtain ⟨c, s1, he, _, ho1, _, _⟩ := M.aL h ho
        obtain ⟨u, s2, h1, h2⟩ := M.aM he
        cases u with
        | struct fs => simp only at h2; split at h2 <;> exact (aG h2).elim
        | array fs n => simp only at h2; split at h2 <;> exact (aG h2).elim
        | _ => exact (aG h2).elim
      · obtain ⟨c, s1, he, _, ho1, _, _⟩ := M.aL h ho
        obtain ⟨u, s2, h1, h2⟩ := M.aM he
        cases u with
        | struct fs => simp only at h2; split at h2 <;> exact (aG h2).elim
        | array fs n => simp only at h2; split at h2 <;> exact (aG h2).elim
        | _ => exact (aG h2).elim
      · exact (aG h).elim
  have ny : ∀ k, x ≠ .string k := by
    rintro k rfl
    cases hx with
    | str => exact hns _ rfl
    | junk =>
      unfold aY at h
      split at h
      · obtain ⟨c, s1, he, _, ho1, _, _⟩ := M.aL h ho
        obtain ⟨u, s2, h1, h2⟩ := M.aM he
        cases u with
        | struct fs => simp only at h2; split at h2 <;> exact (aG h2).elim
        | array fs n => simp only at h2; split at h2 <;> exact (aG h2).elim
        | _ => exact (aG h2).elim
      · obtain ⟨c, s1, he, _, ho1, _, _⟩ := M.aL h ho
        obtain ⟨u, s2, h1, h2⟩ := M.aM he
        cases u with
        | struct fs => simp only at h2; split at h2 <;> exact (aG h2).elim
        | array fs n => simp only at h2; split at h2 <;> exact (aG h2).elim
        | _ => exact (aG h2).elim
      · exact (aG h).elim
  unfold aY at h
  split at h
  · obtain ⟨c, s1, he, h2, ho1, _, _⟩ := M.aL h ho
    obtain ⟨rfl, rfl⟩ := aE h2
    obtain ⟨e, r, hc⟩ := key c _ he ho1
    simp only [Sem.run_bind, hc.guard, Result.andThen_ok, (shape x y hc nx ny).1, r, Sem.run_pure]
    exact .same hr e (.bool _)
  · obtain ⟨c, s1, he, h2, ho1, _, _⟩ := M.aL h ho
    obtain ⟨rfl, rfl⟩ := aE h2
    obtain ⟨e, r, hc⟩ := key c _ he ho1
    simp only [Sem.run_bind, hc.guard, Result.andThen_ok, (shape x y hc nx ny).2, r, Sem.run_pure]
    exact .same hr e (.bool _)
  · exact (aG h).elim
theorem GW {op : BinOp} {t : TypeId} {a b : a9} (h : (binOp E op t a b).run s = .ok v s') (ho : bU s') (hr : Rel E.P ρ m s.heap.get w) {x y : Value} (hx : R ρ m a x) (hy : R ρ m b y) (ox oy : Operand) :
    Out E.P ρ m s w s' v ((do eqGuard op t ox oy x y; Go.binOp op t x y : Sem Value).run E.P w) := by
  unfold binOp at h
  split at h
  · rename_i k n
    obtain rfl := hx.cQ
    unfold aJ at h
    split at h
    · rename_i k' n'
      obtain rfl := hy.cQ
      simp only [Sem.run_bind, GC, Result.andThen_ok]
      split at h
      · exact A8 h ho hr t
      · split at h
        · rename_i hk
          have hk' : k = k' := of_decide_eq_true hk
          subst hk'
          exact G6 h ho hr t
        · exact (aG h).elim
    · exact (aG h).elim
  · obtain ⟨l, rfl, h2⟩ := kT h
    obtain rfl := hx.fT
    obtain rfl := hy.fT
    simp only [Sem.run_bind, GB, Result.andThen_ok]
    exact FD h2 ho hr t
  · rename_i h1 h2
    exact zT h ho hr hx hy (fun k n e => h1 k n e) (fun l e => h2 l e) ox oy
theorem HF {P : Program} {op : UnOp} {a : a9} (h : (unOp op a).run s = .ok v s') (ho : bU s') (hr : Rel P ρ m s.heap.get w) {x : Value} (hx : R ρ m a x) :
    Out P ρ m s w s' v ((Op.unary op x).run P w) := by
  unfold unOp at h
  split at h
  · split at h
    · obtain ⟨rfl, rfl⟩ := aE h
      obtain rfl := hx.cQ
      exact .same hr (.refl _) (.int _ _)
    · exact (aG h).elim
  · split at h
    · obtain ⟨rfl, rfl⟩ := aE h
      obtain rfl := hx.cQ
      exact .same hr (.refl _) (.int _ _)
    · exact (aG h).elim
  · split at h
    · obtain ⟨rfl, rfl⟩ := aE h
      obtain rfl := hx.jB
      exact .same hr (.refl _) (.bool _)
    · obtain ⟨rfl, rfl⟩ := aE h
      obtain rfl := hx.oL
      exact .same hr (.refl _) (.blit _)
    · exact (aG h).elim
  · exact (aG h).elim
theorem B7 {P : Program} {i : Nat} {a : a9} (h : (extract a i).run s = .ok v s') (hr : Rel P ρ m s.heap.get w) {x : Value} (hx : R ρ m a x) :
    Out P ρ m s w s' v ((Instr.extract x i).run P w) := by
  unfold extract at h
  split at h
  · rename_i l
    obtain ⟨hg, rfl⟩ := iT h
    cases hx with
    | tup l c hl hrr =>
      have hi := (List.getElem?_eq_some_iff.1 hg).1
      have hc : c[i]? = some c[i] := Array.getElem?_eq_getElem (by omega)
      simp only [Instr.extract, hc, Sem.run_pure]
      exact .same hr (.refl _) (hrr i v _ hg hc)
  · exact (aG h).elim
theorem J1 {P : Program} {a b : a9} (h : (min2 a b).run s = .ok v s') (hr : Rel P ρ m s.heap.get w) {x y : Value} (hx : R ρ m a x) (hy : R ρ m b y) :
    ∃ z, (Builtin.min2 x y).run P w = .ok z w ∧ R ρ m v z ∧ s' = s := by
  unfold min2 at h
  split at h
  · obtain ⟨q, n, rfl, h2⟩ := mV h
    obtain ⟨rfl, rfl⟩ := aE h2
    obtain rfl := hx.cQ
    obtain rfl := hy.cQ
    exact ⟨_, rfl, .int _ _, rfl⟩
  · exact (aG h).elim
theorem J3 {P : Program} {a b : a9} (h : (max2 a b).run s = .ok v s') (hr : Rel P ρ m s.heap.get w) {x y : Value} (hx : R ρ m a x) (hy : R ρ m b y) :
    ∃ z, (Builtin.max2 x y).run P w = .ok z w ∧ R ρ m v z ∧ s' = s := by
  unfold max2 at h
  split at h
  · obtain ⟨q, n, rfl, h2⟩ := mV h
    obtain ⟨rfl, rfl⟩ := aE h2
    obtain rfl := hx.cQ
    obtain rfl := hy.cQ
    exact ⟨_, rfl, .int _ _, rfl⟩
  · exact (aG h).elim
inductive RV (ρ : Ren) (m : Mem) : List a9 → List Value → Prop
  | nil : RV ρ m [] []
  | cons {a : a9} {x : Value} {l : List a9} {xs : List Value} (h : R ρ m a x) (t : RV ρ m l xs) : RV ρ m (a :: l) (x :: xs)
theorem vJ {P : Program} {f : a9 → a9 → M a9} {g : Value → Value → Sem Value} (hs : ∀ {s s' : St} {a b v : a9}, (f a b).run s = .ok v s' → Rel P ρ m s.heap.get w → ∀ {x y : Value}, R ρ m a x → R ρ m b y →
      ∃ z, (g x y).run P w = .ok z w ∧ R ρ m v z ∧ s' = s) :
    ∀ {l : List a9} {a v : a9} {s s' : St}, (cW f a l).run s = .ok v s' → Rel P ρ m s.heap.get w → ∀ {x : Value} {xs : List Value}, R ρ m a x → RV ρ m l xs → Out P ρ m s w s' v ((xs.foldlM g x).run P w) := by
  intro l
  induction l with
  | nil =>
    intro a v s s' h hr x xs hx hl
    obtain ⟨rfl, rfl⟩ := aE h
    cases hl
    exact .same hr (.refl _) hx
  | cons b l ih =>
    intro a v s s' h hr x xs hx hl
    cases hl with
    | cons hb hl =>
      obtain ⟨c, s1, h1, h2⟩ := M.aM h
      obtain ⟨z, k1, k2, rfl⟩ := hs h1 hr hx hb
      simp only [List.foldlM_cons, Sem.run_bind, k1, Result.andThen_ok]
      exact ih h2 hr k2 hl
end
end Go.Am
