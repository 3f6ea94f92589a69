/- The abstract machine's operations do what the model's do: operands, guards, all operations but calls of functions. -/
import Derived.Test.YtmoplhbncjicbaaAmE
set_option linter.unusedSimpArgs false
set_option linter.unusedVariables false
namespace Go.Am
open Go

variable {E : Env}
section
variable {ρ : Ren} {m : Mem} {s s' : St} {w : World} {v : AVal}

theorem opd_sim {tm : List AVal} {a : Act} (h : RL ρ m tm a.tmps) (x : Operand) : R ρ m (opd tm x) (a.eval x) := by
  cases x with
  | tmp t =>
    simp only [opd, Act.eval, nth_get]
    by_cases ht : t < tm.length
    · have h1 : tm[t]? = some tm[t] := List.getElem?_eq_getElem ht
      have h2 : a.tmps[t]? = some (a.tmps[t]'(by rw [← h.len]; exact ht)) := Array.getElem?_eq_getElem (by rw [← h.len]; exact ht)
      have h3 : a.tmps.getD t Go.undef = a.tmps[t]'(by rw [← h.len]; exact ht) := by simp [Array.getD, ← h.len, ht]
      rw [h1, Option.getD_some, h3]
      exact h.at_ t _ _ h1 h2
    · have h1 : tm[t]? = none := List.getElem?_eq_none (Nat.not_lt.1 ht)
      have h3 : a.tmps.getD t Go.undef = Go.undef := by simp [Array.getD, ← h.len, ht]
      rw [h1, Option.getD_none, h3]
      exact .tup _ _ rfl (fun i v x hv => by simp at hv)
  | const c => exact ofValue_junk c
  | global g => exact .junk _
  | func f => exact .fn _ _ _ _ _ _ (.func f) rfl rfl (fun i v u hv => by simp at hv) (fun i v u hv => by simp at hv)
theorem opds_len (tm : List AVal) : ∀ l, (opds tm l).length = l.length
  | [] => rfl
  | x :: l => by simp [opds, opds_len tm l]
theorem opds_get (tm : List AVal) : ∀ (l : List Operand) (i : Nat), (opds tm l)[i]? = (l[i]?).map (opd tm)
  | [], i => by simp [opds]
  | x :: l, 0 => by simp [opds]
  | x :: l, i + 1 => by simp [opds, opds_get tm l i]
theorem opds_sim {tm : List AVal} {a : Act} (h : RL ρ m tm a.tmps) (l : Array Operand) : RL ρ m (opds tm l.toList) (l.map a.eval) := by
  refine ⟨by simp [opds_len], fun i v x hv hx => ?_⟩
  rw [opds_get] at hv
  simp only [Array.getElem?_toList] at hv
  simp only [Array.getElem?_map] at hx
  cases hl : l[i]? with
  | none => rw [hl] at hv; cases hv
  | some o =>
    rw [hl] at hv hx
    simp only [Option.map_some, Option.some.injEq] at hv hx
    subst hv; subst hx
    exact opd_sim h o
theorem opds_rv {tm : List AVal} {a : Act} (h : RL ρ m tm a.tmps) : ∀ l : List Operand, RV ρ m (opds tm l) (l.map a.eval)
  | [] => .nil
  | x :: l => .cons (opd_sim h x) (opds_rv h l)
theorem ops2_sim {tm : List AVal} {a : Act} (h : RL ρ m tm a.tmps) : ∀ l : List (Nat × Operand), RP ρ m (ops2 tm l) (l.map fun (i, x) => (i, a.eval x))
  | [] => .nil
  | (i, x) :: l => .cons i _ _ _ _ (opd_sim h x) (ops2_sim h l)
theorem opt_sim {tm : List AVal} {a : Act} (h : RL ρ m tm a.tmps) : ∀ o : Option Operand, RO ρ m (opt tm o) (o.map a.eval)
  | none => .none
  | some x => .some _ _ (opd_sim h x)
theorem put_sim {tm : List AVal} {a : Act} (h : RL ρ m tm a.tmps) (d : Option Tmp) {v : AVal} {x : Value} (hv : R ρ m v x) : RL ρ m (putT tm d v) (a.put d x).tmps := by
  cases d with
  | none => exact h
  | some d =>
    refine ⟨by simp [putT, Act.put, put_length, h.len], fun i u y hu hy => ?_⟩
    simp only [putT, put_get] at hu
    simp only [Act.put, Array.getElem?_setIfInBounds] at hy
    by_cases e : i = d
    · subst e
      by_cases hl : i < tm.length
      · have hl' : i < a.tmps.size := by rw [← h.len]; exact hl
        simp only [hl, and_self, if_true, Option.some.injEq] at hu
        simp only [hl', if_true, Option.some.injEq] at hy
        subst hu; subst hy
        exact hv
      · have : tm[i]? = none := List.getElem?_eq_none (by omega)
        simp [hl, this] at hu
    · have e' : ¬ d = i := fun h => e h.symm
      simp only [e, false_and, if_false] at hu
      simp only [e', if_false] at hy
      exact h.at_ i u y hu hy
theorem R.no_bool {v : AVal} {x : Value} (h : R ρ m v x) (h1 : ∀ b, v ≠ .bool b) (h2 : ∀ b, v ≠ .blit b) (h3 : v ≠ .junk) : ∀ b, x ≠ .bool b := by
  cases h with
  | bool b => exact absurd rfl (h1 b)
  | blit b => exact absurd rfl (h2 b)
  | junk => exact absurd rfl h3
  | _ => intro b hb; cases hb
theorem wanted_sim {ops : Array Oper} {tm : List AVal} {a : Act} {o : Oper} {b : Bool} (h : (wanted ops.toList tm o.guard).run s = .ok b s') (ho : OkObs s') (ht : RL ρ m tm a.tmps) :
    Same s s' ∧ Region.wanted o (yielded ops a.tmps) = b := by
  unfold wanted at h
  unfold Region.wanted
  cases hg : o.guard with
  | none =>
    rw [hg] at h
    obtain ⟨rfl, rfl⟩ := pure_ok h
    exact ⟨.refl _, rfl⟩
  | some p =>
    rw [hg] at h
    obtain ⟨j, want⟩ := p
    simp only [Array.getElem?_toList] at h
    simp only [yielded]
    cases hd : (ops[j]?).bind (·.dst) with
    | none =>
      rw [hd] at h
      obtain ⟨rfl, rfl⟩ := pure_ok h
      exact ⟨.refl _, rfl⟩
    | some d =>
      rw [hd] at h
      simp only at h
      simp only [Option.bind_some]
      by_cases hl : d < tm.length
      · have h1 : tm[d]? = some tm[d] := List.getElem?_eq_getElem hl
        have hl' : d < a.tmps.size := by rw [← ht.len]; exact hl
        have h2 : a.tmps[d]? = some a.tmps[d] := Array.getElem?_eq_getElem hl'
        have hr := ht.at_ d _ _ h1 h2
        rw [nth_get, h1, Option.getD_some] at h
        rw [h2]
        generalize tm[d] = v at *
        generalize a.tmps[d] = x at *
        unfold wantB at h
        split at h
        · rename_i b
          obtain ⟨t, s1, h3, h4, ho1, _, _⟩ := M.bind_did h ho
          obtain ⟨rfl, e⟩ := ask_ok h3 ho1
          obtain ⟨rfl, rfl⟩ := pure_ok h4
          obtain rfl := hr.bool_inv
          refine ⟨e, ?_⟩
          cases t <;> cases want <;> rfl
        · rename_i b
          obtain ⟨rfl, rfl⟩ := pure_ok h
          obtain rfl := hr.blit_inv
          refine ⟨.refl _, ?_⟩
          cases b <;> cases want <;> rfl
        · exact (fail_ok h).elim
        · rename_i h3 h4 h5
          obtain ⟨rfl, rfl⟩ := pure_ok h
          refine ⟨.refl _, ?_⟩
          have := hr.no_bool (fun b => h3 b) (fun b => h4 b) h5
          cases x with
          | bool b => exact absurd rfl (this b)
          | _ => rfl
      · have h1 : tm[d]? = none := List.getElem?_eq_none (Nat.not_lt.1 hl)
        have h2 : a.tmps[d]? = none := Array.getElem?_eq_none (by rw [← ht.len]; exact Nat.not_lt.1 hl)
        rw [nth_get, h1, Option.getD_none] at h
        rw [h2]
        have h : (M.pure false).run s = .ok b s' := h
        obtain ⟨rfl, rfl⟩ := pure_ok h
        exact ⟨.refl _, rfl⟩

/-- What an operation gives. -/
def OutN (P : Program) (ρ : Ren) (m : Mem) (s : St) (w : World) (s' : St) (v : AVal) (res : Result Next) : Prop :=
  ∃ x w' ρ', (res = .ok (.value x) w' ∨ (res = .ok .skip w' ∧ x = Go.undef)) ∧ Post P ρ m s w ρ' m s' w' ∧ R ρ' m v x
theorem Out.next {P : Program} {r : Sem Value} (h : Out P ρ m s w s' v (r.run P w)) : OutN P ρ m s w s' v ((do pure (.value (← r)) : Sem Next).run P w) := by
  obtain ⟨x, w', ρ', h1, h2, h3⟩ := h
  exact ⟨x, w', ρ', .inl (by simp only [Sem.run_bind, h1, Result.andThen_ok, Sem.run_pure]), h2, h3⟩
theorem undef_sim : R ρ m undef Go.undef := .tup _ _ rfl (fun i v x hv => by simp at hv)
theorem nilCheck_sim {a : AVal} (h : (nilCheck a).run s = .ok v s') {x : Value} (hx : R ρ m a x) : s' = s ∧ R ρ m v x ∧ x ≠ .pointer none ∧ x ≠ .nilIface ∧ x ≠ .nilFunc ∧ (∀ n a b, x ≠ .func (.method n) a b) := by
  unfold nilCheck at h
  split at h
  · obtain ⟨rfl, rfl⟩ := pure_ok h
    refine ⟨rfl, hx, ?_⟩
    cases hx
    exact ⟨by simp, by simp, by simp, by simp⟩
  · obtain ⟨rfl, rfl⟩ := pure_ok h
    refine ⟨rfl, hx, ?_⟩
    cases hx
    exact ⟨by simp, by simp, by simp, by simp⟩
  · split at h
    · obtain ⟨rfl, rfl⟩ := pure_ok h
      refine ⟨rfl, hx, ?_⟩
      cases hx with
      | fn _ _ _ _ _ _ hf =>
        cases hf
        exact ⟨by simp, by simp, by simp, by simp⟩
    · obtain ⟨rfl, rfl⟩ := pure_ok h
      refine ⟨rfl, hx, ?_⟩
      cases hx with
      | fn _ _ _ _ _ _ hf =>
        cases hf
        exact ⟨by simp, by simp, by simp, by simp⟩
    · exact (fail_ok h).elim
  · exact (fail_ok h).elim
theorem one1_ok {k : AVal → M AVal} {l : List AVal} (h : (one1 k l).run s = .ok v s') : ∃ x, l = [x] ∧ (k x).run s = .ok v s' := by
  unfold one1 at h
  split at h
  · exact ⟨_, rfl, h⟩
  · exact (fail_ok h).elim
theorem two2_ok {k : AVal → AVal → M AVal} {l : List AVal} (h : (two2 k l).run s = .ok v s') : ∃ x y, l = [x, y] ∧ (k x y).run s = .ok v s' := by
  unfold two2 at h
  split at h
  · exact ⟨_, _, rfl, h⟩
  · exact (fail_ok h).elim
theorem some1_ok {k : AVal → List AVal → M AVal} {l : List AVal} (h : (some1 k l).run s = .ok v s') : ∃ x y, l = x :: y ∧ (k x y).run s = .ok v s' := by
  unfold some1 at h
  split at h
  · exact ⟨_, _, rfl, h⟩
  · exact (fail_ok h).elim
theorem RV.array {l : List AVal} {c : Array Value} (h : RL ρ m l c) : RV ρ m l c.toList := by
  obtain ⟨c⟩ := c
  obtain ⟨hl, ha⟩ := h
  simp only [List.size_toArray] at hl
  induction l generalizing c with
  | nil =>
    cases c with
    | nil => exact .nil
    | cons => simp at hl
  | cons v l ih =>
    cases c with
    | nil => simp at hl
    | cons x c => exact .cons (ha 0 v x (by simp) (by simp)) (ih c (fun i v x hv hx => ha (i + 1) v x (by simpa using hv) (by simpa using hx)) (by simpa using hl))
theorem bLen_sim {ts : List TypeId} {a : AVal} (h : (bLen E ts a).run s = .ok v s') (hr : Rel E.P ρ m s.heap.get w) {x : Value} (hx : R ρ m a x) (ty : TypeId) :
    Out E.P ρ m s w s' v ((Builtin.len_ ts.toArray ty #[x]).run E.P w) := by
  unfold bLen at h
  split at h
  · rename_i t tl
    obtain ⟨d, s1, h1, h2⟩ := M.bind_ok h
    obtain ⟨⟨i, hi, rfl⟩, rfl⟩ := und_ok h1
    have hu := hi.run_und (w := w)
    have h0 : ((t :: tl).toArray : Array TypeId)[0]? = some t := rfl
    have hx0 : (#[x] : Array Value)[0]? = some x := rfl
    cases hd : i.desc with
    | array n e =>
      rw [hd] at h2 hu
      obtain ⟨rfl, rfl⟩ := pure_ok h2
      simp only [Builtin.len_, h0, hx0, Sem.run_bind, hu, Result.andThen_ok, Sem.run_pure]
      exact .same hr (.refl _) (.int _ _)
    | pointer e =>
      rw [hd] at h2 hu
      obtain ⟨d2, s2, h3, h4⟩ := M.bind_ok h2
      obtain ⟨⟨j, hj, rfl⟩, rfl⟩ := und_ok h3
      have hv := hj.run_und (w := w)
      cases hd2 : j.desc with
      | array n e =>
        rw [hd2] at h4 hv
        obtain ⟨rfl, rfl⟩ := pure_ok h4
        simp only [Builtin.len_, h0, hx0, Sem.run_bind, hu, hv, Result.andThen_ok, Sem.run_pure]
        exact .same hr (.refl _) (.int _ _)
      | _ => rw [hd2] at h4; exact (fail_ok h4).elim
    | string =>
      rw [hd] at h2 hu
      obtain ⟨l, rfl, h3⟩ := str_ok h2
      obtain ⟨rfl, rfl⟩ := pure_ok h3
      obtain rfl := hx.str_inv
      simp only [Builtin.len_, h0, hx0, Sem.run_bind, hu, Result.andThen_ok, Sem.run_pure]
      exact .same hr (.refl _) (.int _ _)
    | slice e =>
      rw [hd] at h2 hu
      simp only at h2
      split at h2
      · exact (fail_ok h2).elim
      · rename_i hns
        obtain ⟨n, s2, h3, h4⟩ := M.bind_ok h2
        obtain ⟨rfl, rfl⟩ := pure_ok h4
        obtain ⟨rfl, hl⟩ := lenOf_sim (P := E.P) (w := w) h3 hx
        have go : ∀ (base : Option Addr) (l c : Nat), x = .slice base l c → Out E.P ρ m s' w s' (.int .i64 n) ((Builtin.len_ (t :: tl).toArray ty #[x]).run E.P w) := by
          rintro base l c rfl
          have : l = n := by
            have := hl
            simp only [Builtin.lenOf] at this
            injection this
          subst this
          simp only [Builtin.len_, h0, hx0, Sem.run_bind, hu, Result.andThen_ok, Sem.run_pure]
          exact .same hr (.refl _) (.int _ _)
        unfold lenOf at h3
        split at h3
        · cases hx; exact go _ _ _ rfl
        · cases hx; exact go _ _ _ rfl
        · cases hx <;> exact go _ _ _ rfl
        · cases hx <;> exact go _ _ _ rfl
        · exact absurd rfl (hns _)
        · exact (fail_ok h3).elim
    | map kt et =>
      rw [hd] at h2 hu
      simp only at h2
      split at h2
      · obtain ⟨rfl, rfl⟩ := pure_ok h2
        cases hx
        simp only [Builtin.len_, h0, hx0, Sem.run_bind, hu, Result.andThen_ok, Sem.run_pure]
        exact .same hr (.refl _) (.int _ _)
      · rename_i id
        obtain ⟨b, s2, h3, h4⟩ := M.bind_ok h2
        obtain ⟨hg, e1⟩ := get_ok h3
        split at h4
        · rename_i es ck
          obtain ⟨r, arr, rfl, hρ, hgo, hw, hm⟩ := map_at hr hg hx
          obtain ⟨rfl, rfl⟩ := pure_ok h4
          have hl : (es.length : Int) = (arr.size : Int) := by have := hm.len; simp at this; omega
          simp only [Builtin.len_, h0, hx0, Sem.run_bind, hu, hgo, Result.andThen_ok, Sem.run_pure]
          rw [hl]
          exact .same hr e1 (.int _ _)
        · exact (fail_ok h4).elim
      · exact (fail_ok h2).elim
    | _ => rw [hd] at h2; exact (fail_ok h2).elim
  · exact (fail_ok h).elim
theorem bCap_sim {ts : Array TypeId} {ty : TypeId} {a : AVal} (h : (bCap E ts.toList a).run s = .ok v s') (hr : Rel E.P ρ m s.heap.get w) {x : Value} (hx : R ρ m a x) :
    Out E.P ρ m s w s' v ((Builtin.cap_ ts ty #[x]).run E.P w) := by
  unfold bCap at h
  split at h
  · rename_i t tl hts
    obtain ⟨tsl⟩ := ts
    simp only at hts
    subst hts
    obtain ⟨d, s1, h1, h2⟩ := M.bind_ok h
    obtain ⟨⟨i, hi, rfl⟩, rfl⟩ := und_ok h1
    have hu := hi.run_und (w := w)
    cases hd : i.desc with
    | slice e =>
      rw [hd] at h2 hu
      obtain ⟨n, s2, h3, h4⟩ := M.bind_ok h2
      obtain ⟨rfl, rfl⟩ := pure_ok h4
      have go : ∀ (base : Option Addr) (l : Nat), x = .slice base l n → s' = s1 → Out E.P ρ m s1 w s' (.int .i64 n) ((Builtin.cap_ (t :: tl).toArray ty #[x]).run E.P w) := by
        rintro base l rfl rfl
        simp only [Builtin.cap_, List.getElem?_toArray, List.getElem?_cons_zero, Sem.run_bind, hu, Result.andThen_ok, Sem.run_pure]
        exact .same hr (.refl _) (.int _ _)
      unfold capOf at h3
      split at h3
      · obtain ⟨rfl, rfl⟩ := pure_ok h3; cases hx; exact go _ _ rfl rfl
      · obtain ⟨rfl, rfl⟩ := pure_ok h3; cases hx; exact go _ _ rfl rfl
      · split at h3
        · obtain ⟨rfl, rfl⟩ := pure_ok h3
          cases hx with
          | slx _ _ _ c _ r hρ hl => exact go _ _ rfl rfl
          | sl0 _ _ _ _ ad hc hn' =>
            have := hc _ rfl
            subst this
            exact go _ _ rfl rfl
        · exact (fail_ok h3).elim
      · exact (fail_ok h3).elim
    | _ => rw [hd] at h2; exact (fail_ok h2).elim
  · exact (fail_ok h).elim
theorem bClear_sim {ts : Array TypeId} {ty : TypeId} {a : AVal} (h : (bClear E ts.toList a).run s = .ok v s') (ho : OkObs s') (hr : Rel E.P ρ m s.heap.get w) {x : Value} (hx : R ρ m a x) :
    Out E.P ρ m s w s' v ((Builtin.clear_ ts ty #[x]).run E.P w) := by
  unfold bClear at h
  split at h
  · rename_i t tl hts
    obtain ⟨tsl⟩ := ts
    simp only at hts
    subst hts
    obtain ⟨d, s1, h1, h2⟩ := M.bind_ok h
    obtain ⟨⟨i, hi, rfl⟩, rfl⟩ := und_ok h1
    have hu := hi.run_und (w := w)
    cases hd : i.desc with
    | slice e =>
      rw [hd] at h2 hu
      have none_ : ∀ (base : Option Addr) (c : Nat), x = .slice base 0 c → (Builtin.clear_ (t :: tl).toArray ty #[x]).run E.P w = .ok (.tuple #[]) w := by
        rintro base c rfl
        cases base <;> simp only [Builtin.clear_, List.getElem?_toArray, List.getElem?_cons_zero, Sem.run_bind, hu, Result.andThen_ok, Sem.run_pure]
      have tup0 : ∀ {ρ : Ren}, R ρ m (.tup []) (.tuple #[]) := fun {ρ} => .tup _ _ rfl (fun i v x hv => by simp at hv)
      simp only at h2
      split at h2
      · obtain ⟨rfl, rfl⟩ := pure_ok h2; cases hx; rw [none_ _ _ rfl]; exact .same hr (.refl _) tup0
      · obtain ⟨rfl, rfl⟩ := pure_ok h2; cases hx; rw [none_ _ _ rfl]; exact .same hr (.refl _) tup0
      · rename_i id off len cap sz
        obtain ⟨nothing, s2, h3, h4, ho2, _, _⟩ := M.bind_did h2 ho
        obtain ⟨hq, e2⟩ := ask_ok h3 ho2
        cases nothing with
        | true =>
          have h0 : len = 0 := Nat.eq_of_beq_eq_true hq.symm
          subst h0
          obtain ⟨rfl, rfl⟩ := pure_ok h4
          cases hx <;> (rw [none_ _ _ rfl]; exact .same hr e2 tup0)
        | false =>
          have hne : ¬ len = 0 := by intro hh; rw [hh] at hq; cases hq
          obtain ⟨j, s3, h5, h6⟩ := M.bind_ok h4
          obtain ⟨hj, rfl⟩ := ti_ok h5
          obtain ⟨hsz, h7⟩ := sameSz_ok h6
          obtain ⟨_, s4, h8, h9⟩ := M.bind_ok h7
          obtain ⟨rfl, rfl⟩ := pure_ok h9
          obtain ⟨z, hz, hzi⟩ := hj.run_zero (w := w)
          have hzc := hj.zcells (ρ := ρ) (m := m) hzi
          have hreps := reps_sim hzc len
          have go : ∀ (r : RB) (c : Nat), ρ id = some r → x = .slice (some ⟨r.b, off, none⟩) len c → Out E.P ρ m s1 w s' (.tup []) ((Builtin.clear_ (t :: tl).toArray ty #[x]).run E.P w) := by
            intro r c hρ hxe
            subst hxe
            obtain ⟨ad, w', q1, q2, q3⟩ := writeCells_sim h8 ho (hr.of_same e2) (.ptr id off r hρ) (xs := (Builtin.zeroCells z.cells len).toList) (by simpa [Builtin.zeroCells] using hreps.len) (fun j p q hp hq => hreps.at_ j p q hp (by rw [Array.getElem?_toList] at hq; exact hq))
            injection q1 with q1
            injection q1 with q1
            subst q1
            refine ⟨_, w', ρ, ?_, q3.after e2, tup0⟩
            cases len with
            | zero => exact absurd rfl hne
            | succ len => simp only [Builtin.clear_, List.getElem?_toArray, List.getElem?_cons_zero, Sem.run_bind, hu, Result.andThen_ok, hz, q2, Sem.run_pure]
          cases hx with
          | slx _ _ _ c _ r hρ hl => exact go r c hρ rfl
          | slw _ _ _ c _ r hρ hl hs hc => exact go r c hρ rfl
          | sl0 _ _ _ _ ad hc hn' => exact absurd rfl hne
      · exact (fail_ok h2).elim
    | map kt et =>
      have tup0 : R ρ m (.tup []) (.tuple #[]) := .tup _ _ rfl (fun i v x hv => by simp at hv)
      rw [hd] at h2 hu
      simp only at h2
      split at h2
      · obtain ⟨rfl, rfl⟩ := pure_ok h2
        cases hx
        simp only [Builtin.clear_, List.getElem?_toArray, List.getElem?_cons_zero, Sem.run_bind, hu, Result.andThen_ok, Sem.run_pure]
        exact .same hr (.refl _) tup0
      · rename_i id
        obtain ⟨b, s2, h3, h4⟩ := M.bind_ok h2
        obtain ⟨hg, e1⟩ := get_ok h3
        unfold mapK at h4
        split at h4
        · rename_i es ck
          obtain ⟨r, arr, rfl, hρ, hgo, hw, hm⟩ := map_at hr hg hx
          obtain ⟨_, s3, h5, h6⟩ := M.bind_ok h4
          obtain ⟨rfl, rfl⟩ := pure_ok h6
          obtain ⟨k1, k2⟩ := map_set (arr' := #[]) hr hg hρ e1 h5 hw .nil
          refine ⟨.tuple #[], _, ρ, ?_, k2, tup0⟩
          simp only [Builtin.clear_, List.getElem?_toArray, List.getElem?_cons_zero, Sem.run_bind, hu, hgo, Result.andThen_ok, k1, Sem.run_pure]
        · exact (fail_ok h4).elim
      · exact (fail_ok h2).elim
    | _ => rw [hd] at h2; exact (fail_ok h2).elim
  · exact (fail_ok h).elim
theorem builtin_sim {b : Builtin} {ts : Array TypeId} {ty : TypeId} {cs : Array Bool} {args : List AVal} {xs : Array Value} (h : (builtin E b ts.toList args).run s = .ok v s') (ho : OkObs s') (hr : Rel E.P ρ m s.heap.get w) (hf : Fresh ρ s s')
    (hx : RV ρ m args xs.toList) : OutN E.P ρ m s w s' v ((Go.builtin b ts ty cs xs).run E.P w) := by
  unfold builtin at h
  obtain ⟨xl⟩ := xs
  split at h
  · obtain ⟨a, rfl, h2⟩ := one1_ok h
    cases hx with
    | cons ha ht =>
      cases ht
      have := bLen_sim h2 hr ha ty
      rw [Array.toArray_toList] at this
      exact this.next
  · obtain ⟨a, b, rfl, h2⟩ := two2_ok h
    cases hx with
    | cons ha ht =>
      cases ht with
      | cons hb ht =>
        cases ht
        unfold bAppend at h2
        split at h2
        · rename_i t t2 rest hts
          obtain ⟨d2, s1, h3, h4⟩ := M.bind_ok h2
          obtain ⟨⟨i2, hi2, rfl⟩, rfl⟩ := und_ok h3
          split at h4
          · rename_i hd2
            cases rest with
            | nil => exact (appendZ_sim (ty := ty) (by rw [hts]) hi2 hd2 (by rw [hts] at h4; exact h4) ho hr hf ha hb).next
            | cons t3 rest => rw [hts] at h4; exact (fail_ok h4).elim
          · rename_i hd2
            exact (append_sim (ty := ty) hts hi2 hd2 h4 ho hr hf ha hb).next
        · exact (fail_ok h2).elim
  · obtain ⟨a, b, rfl, h2⟩ := two2_ok h
    cases hx with
    | cons ha ht =>
      cases ht with
      | cons hb ht =>
        cases ht
        unfold bCopy at h2
        split at h2
        · rename_i t rest hts
          exact (copy_sim (ty := ty) (by rw [← Array.getElem?_toList, hts]; rfl) h2 ho hr ha hb).next
        · exact (fail_ok h2).elim
  · obtain ⟨a, l, rfl, h2⟩ := some1_ok h
    cases hx with
    | cons ha ht =>
      exact Out.next (r := Builtin.min_ ts ty _) (foldM2_sim (f := min2) (g := Builtin.min2) (fun h hr x y hx hy => min2_sim h hr hx hy) h2 hr ha ht)
  · obtain ⟨a, l, rfl, h2⟩ := some1_ok h
    cases hx with
    | cons ha ht =>
      exact Out.next (r := Builtin.max_ ts ty _) (foldM2_sim (f := max2) (g := Builtin.max2) (fun h hr x y hx hy => max2_sim h hr hx hy) h2 hr ha ht)
  · obtain ⟨a, rfl, h2⟩ := one1_ok h
    cases hx with
    | cons ha ht =>
      cases ht
      have := bCap_sim (ty := ty) h2 hr ha
      rw [Array.toArray_toList] at this
      exact this.next
  · obtain ⟨a, rfl, h2⟩ := one1_ok h
    cases hx with
    | cons ha ht =>
      cases ht
      have := bClear_sim (ty := ty) h2 ho hr ha
      rw [Array.toArray_toList] at this
      exact this.next
  · obtain ⟨a, b, rfl, h2⟩ := two2_ok h
    cases hx with
    | cons ha ht =>
      cases ht with
      | cons hb ht =>
        cases ht
        have := bDelete_sim (ty := ty) h2 ho hr ha hb
        rw [Array.toArray_toList] at this
        exact this.next
  · exact (fail_ok h).elim
/-- Every operation but a call of a function's value. -/
theorem execOp_sim {rec : Rec} {o : Oper} {tm : List AVal} {a : Act} (h : (execOp E rec tm o.op).run s = .ok v s') (ho : OkObs s') (hr : Rel E.P ρ m s.heap.get w) (hf : Fresh ρ s s') (ht : RL ρ m tm a.tmps)
    (hc : ∀ c f, o.op = .call c → c.callee ≠ .value f) : OutN E.P ρ m s w s' v ((Go.execOp a.eval o).run E.P w) := by
  obtain ⟨dst, op, type, pos, after, guard⟩ := o
  simp only at h hc
  unfold execOp at h
  split at h
  case h_1 x =>
    obtain ⟨rfl, rfl⟩ := pure_ok h
    exact ⟨_, w, ρ, .inl rfl, .of_same hr (.refl _), opd_sim ht _⟩
  case h_2 x =>
    obtain ⟨rfl, rfl⟩ := pure_ok h
    exact ⟨_, w, ρ, .inl rfl, .of_same hr (.refl _), opd_sim ht _⟩
  case h_3 c x y =>
    obtain ⟨t, s1, h1, h2, ho1, _, _⟩ := M.bind_did h ho
    obtain ⟨hb, e⟩ := branch_ok h1 ho1
    have hcv : a.eval c = .bool t := by
      have := opd_sim ht c
      rcases hb with hb | hb
      · rw [hb] at this; exact this.bool_inv
      · rw [hb] at this; exact this.blit_inv
    cases t with
    | true =>
      obtain ⟨rfl, rfl⟩ := pure_ok h2
      refine ⟨a.eval x, w, ρ, .inl ?_, .of_same hr e, opd_sim ht _⟩
      simp only [Go.execOp, Sem.run_bind, hcv, asBool, Sem.run_pure, Result.andThen_ok, if_true]
    | false =>
      obtain ⟨rfl, rfl⟩ := pure_ok h2
      refine ⟨a.eval y, w, ρ, .inl ?_, .of_same hr e, opd_sim ht _⟩
      simp only [Go.execOp, Sem.run_bind, hcv, asBool, Sem.run_pure, Result.andThen_ok, Bool.false_eq_true, if_false]
  case h_4 t =>
    obtain ⟨z, s1, h1, h2⟩ := M.bind_ok h
    obtain ⟨⟨i, hi, rfl⟩, rfl⟩ := zeroOf_ok h1
    obtain ⟨zv, hz, hzi⟩ := hi.run_zero (w := w)
    have hzr : R ρ m i.zero zv := hzi ▸ ofValue_junk zv
    obtain ⟨ad, w', ρ', k1, k2, k3⟩ := newVar_sim h2 ho hr hf hzr
    refine Out.next (r := Instr.alloc t true (.tuple #[])) ⟨_, w', ρ', ?_, k2, k3⟩
    simp only [Instr.alloc, Sem.run_bind, hz, Result.andThen_ok, k1, Sem.run_pure]
  case h_5 t x =>
    obtain ⟨ad, w', ρ', k1, k2, k3⟩ := newVar_sim h ho hr hf (opd_sim ht x)
    refine Out.next (r := Instr.box t (a.eval x)) ⟨_, w', ρ', ?_, k2, k3⟩
    simp only [Instr.box, Sem.run_bind, Result.andThen_ok, k1, Sem.run_pure]
  case h_6 t ps =>
    have := build_sim h ho hr (ops2_sim ht ps.toList)
    have e : (ps.toList.map fun (i, x) => (i, a.eval x)).toArray = ps.map fun (i, x) => (i, a.eval x) := by
      apply Array.ext'; simp
    rw [e] at this
    exact this.next
  case h_7 t n ps =>
    have := buildSlice_sim h ho hr hf (ops2_sim ht ps.toList)
    have e : (ps.toList.map fun (i, x) => (i, a.eval x)).toArray = ps.map fun (i, x) => (i, a.eval x) := by
      apply Array.ext'; simp
    rw [e] at this
    exact this.next
  case h_8 t x => exact (load_sim h ho hr (opd_sim ht x)).next
  case h_9 t x y =>
    obtain ⟨u, s1, h1, h2⟩ := M.bind_ok h
    obtain ⟨rfl, rfl⟩ := pure_ok h2
    obtain ⟨w', k1, k2⟩ := store_sim h1 ho hr (opd_sim ht x) (opd_sim ht y)
    refine ⟨Go.undef, w', ρ, .inr ⟨?_, rfl⟩, k2, undef_sim⟩
    simp only [Go.execOp, Sem.run_bind, k1, Result.andThen_ok, Sem.run_pure]
  case h_10 x =>
    have hx := opd_sim ht x
    obtain ⟨rfl, k1, k2, k3, k4, k5⟩ := nilCheck_sim h hx
    refine ⟨a.eval x, w, ρ, .inl ?_, .of_same hr (.refl _), k1⟩
    simp only [Go.execOp]
    generalize a.eval x = y at *
    cases y with
    | pointer p => cases p with
      | none => exact absurd rfl k2
      | some p => rfl
    | nilIface => exact absurd rfl k3
    | nilFunc => exact absurd rfl k4
    | func f p q =>
      cases f with
      | method nm => exact absurd rfl (k5 nm p q)
      | _ => rfl
    | _ => rfl
  case h_11 bop t x y _ => exact (binOp_sim h ho hr (opd_sim ht x) (opd_sim ht y) x y).next
  case h_12 uop _ x => exact (unOp_sim h ho hr (opd_sim ht x)).next
  case h_13 sr ds x => exact (convert_sim h ho hr hf (opd_sim ht x)).next
  case h_14 f x y =>
    split at h
    · rename_i g
      obtain ⟨rfl, rfl⟩ := pure_ok h
      have hx := opds_sim ht x
      have hy := opds_sim ht y
      exact Out.next (r := Instr.makeFunc (.func g) (x.map a.eval) (y.map a.eval)) ⟨_, w, ρ, rfl, .of_same hr (.refl _), .fn _ _ _ _ _ _ (.func g) hx.len hy.len hx.at_ hy.at_⟩
    · exact (fail_ok h).elim
  case h_15 t l c => exact (makeSlice_sim h ho hr hf (opd_sim ht l) (opd_sim ht c)).next
  case h_16 t x lo hi mx => exact (slice_sim h ho hr (opd_sim ht x) (opt_sim ht lo) (opt_sim ht hi) (opt_sim ht mx)).next
  case h_17 t x f => exact (fieldAddr_sim h hr (opd_sim ht x)).next
  case h_18 t x f => exact (field_sim h hr (opd_sim ht x)).next
  case h_19 t x i => exact (indexAddr_sim h ho hr (opd_sim ht x) (opd_sim ht i)).next
  case h_20 t x i => exact (index_sim h ho hr (opd_sim ht x) (opd_sim ht i)).next
  case h_21 t x => exact (range_sim h ho hr hf (opd_sim ht x)).next
  case h_22 x st =>
    split at h
    · exact (next_sim h ho hr (opd_sim ht x)).next
    · exact (fail_ok h).elim
  case h_23 x i => exact (extract_sim h hr (opd_sim ht x)).next
  case h_24 c =>
    unfold doCall at h
    obtain ⟨callee, cargs, ctys⟩ := c
    simp only at h
    split at h
    · rename_i f
      exact absurd rfl (hc _ f rfl)
    · rename_i b
      have := builtin_sim (ty := type) (cs := cargs.map fun | .const _ => true | _ => false) h ho hr hf (xs := cargs.map a.eval) (by simpa using opds_rv ht cargs.toList)
      simp only [Go.execOp, resolve, Sem.run_bind, Sem.run_pure, Result.andThen_ok, invoke]
      exact this
    · exact (fail_ok h).elim
  case h_25 t r =>
    refine (makeMap_sim (t := t) h hr hf (r' := r.map a.eval) fun e => ?_).next
    cases r with
    | none => rfl
    | some r => cases e
  case h_26 x => exact (entry_sim h ho hr (opd_sim ht x)).next
  case h_27 t x k ok => exact (lookup_sim h ho hr (opd_sim ht x) (opd_sim ht k)).next
  case h_28 t x k y =>
    obtain ⟨rfl, w', ρ', k1, k2⟩ := mapUpdate_sim h ho hr (opd_sim ht x) (opd_sim ht k) (opd_sim ht y)
    exact ⟨Go.undef, w', ρ', .inr ⟨by simp only [Go.execOp, Sem.run_bind, k1, Result.andThen_ok, Sem.run_pure], rfl⟩, k2, undef_sim⟩
  case h_29 t x k y =>
    obtain ⟨rfl, w', ρ', k1, k2⟩ := mapUpdate_sim h ho hr (opd_sim ht x) (opd_sim ht k) (opd_sim ht y)
    exact ⟨Go.undef, w', ρ', .inr ⟨by simp only [Go.execOp, Sem.run_bind, k1, Result.andThen_ok, Sem.run_pure], rfl⟩, k2, undef_sim⟩
  case h_30 t x k => exact (mapEntry_sim h ho hr (opd_sim ht x) (opd_sim ht k)).next
  case h_31 t x st y =>
    obtain ⟨rfl, w', ρ', k1, k2⟩ := entryStore_sim (t := t) h ho hr (opd_sim ht x) (opd_sim ht st) (opd_sim ht y)
    exact ⟨Go.undef, w', ρ', .inr ⟨by simp only [Go.execOp, Sem.run_bind, k1, Result.andThen_ok, Sem.run_pure], rfl⟩, k2, undef_sim⟩
  case h_32 => exact (fail_ok h).elim
end
end Go.Am
