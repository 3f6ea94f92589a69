/- What the statement reaches, gone through; and the abstract machine that goes through it. -/
import Derived.Test.YtlgebaofkolkoaaGA
import Derived.RangeFuncLeaves
import Derived.TacticsIn
import Derived.Below
import Derived.IntWalk
import Derived.OpenShut
import Derived.Laws.Externs
import Derived.Lib.BytesEntry
import Derived.Lib.Overlaps
set_option linter.unusedSimpArgs false
set_option linter.unusedVariables false
namespace Go.Am
open Go
variable {E : Env}
section
variable {ρ : Ren} {m : Mem} {s s' : St} {w : World} {v : aA}
theorem cA {tm : List aA} {a : Act} (h : RL ρ m tm a.tmps) (x : Operand) : R ρ m (opd tm x) (a.eval x) := by
 cases x with
 | tmp t =>
  simp only [opd, Act.eval, gJ]
  by_cases ht : t < tm.length
  ·have h1 : tm[t]? = some tm[t] := List.getElem?_eq_getElem ht
   have h2 : a.tmps[t]? = some (a.tmps[t]'(by rw [← h.len]; exact ht)) := Array.getElem?_eq_getElem (by rw [← h.len]; exact ht)
   have h3 : a.tmps.getD t Go.undef = a.tmps[t]'(by rw [← h.len]; exact ht) := by simp [Array.getD, ← h.len, ht]
   rw [h1, Option.getD_some, h3]
   exact h.at_ t _ _ h1 h2
  ·have h1 : tm[t]? = none := List.getElem?_eq_none (Nat.not_lt.1 ht)
   have h3 : a.tmps.getD t Go.undef = Go.undef := by simp [Array.getD, ← h.len, ht]
   rw [h1, Option.getD_none, h3]
   exact .tup _ _ rfl (fun i v x hv => by simp at hv)
 | const c => exact gZ c
 | global g => exact .aB _
 | func f => exact .fn _ _ _ _ _ _ (.func f) rfl rfl (fun i v u hv => by simp at hv) (fun i v u hv => by simp at hv)
theorem AI (tm : List aA) : ∀ l, (eN tm l).length = l.length
 | [] => rfl
 | x :: l => by simp [eN, AI tm l]
theorem AJ (tm : List aA) : ∀ (l : List Operand) (i : Nat), (eN tm l)[i]? = (l[i]?).map (opd tm)
 | [], i => by simp [eN]
 | x :: l, 0 => by simp [eN]
 | x :: l, i + 1 => by simp [eN, AJ tm l i]
theorem uK {tm : List aA} {a : Act} (h : RL ρ m tm a.tmps) (l : Array Operand) : RL ρ m (eN tm l.toList) (l.map a.eval) := by
 refine ⟨by simp [AI], fun i v x hv hx => ?_⟩
 rw [AJ] at hv
 simp only [Array.getElem?_toList] at hv
 simp only [Array.getElem?_map] at hx
 cases hl : l[i]? with
 | none => rw [hl] at hv; cases hv
 | some o =>
  rw [hl] at hv hx
  simp only [Option.map_some, Option.some.injEq] at hv hx
  subst hv; subst hx
  exact cA h o
theorem DW {tm : List aA} {a : Act} (h : RL ρ m tm a.tmps) : ∀ l : List Operand, RV ρ m (eN tm l) (l.map a.eval)
 | [] => .nil
 | x :: l => .cons (cA h x) (DW h l)
theorem uJ {tm : List aA} {a : Act} (h : RL ρ m tm a.tmps) : ∀ l : List (Nat × Operand), RP ρ m (fM tm l) (l.map fun (i, x) => (i, a.eval x))
 | [] => .nil
 | (i, x) :: l => .cons i _ _ _ _ (cA h x) (uJ h l)
theorem yN {tm : List aA} {a : Act} (h : RL ρ m tm a.tmps) : ∀ o : Option Operand, RO ρ m (opt tm o) (o.map a.eval)
 | none => .none
 | some x => .some _ _ (cA h x)
theorem tI {tm : List aA} {a : Act} (h : RL ρ m tm a.tmps) (d : Option Tmp) {v : aA} {x : Value} (hv : R ρ m v x) : RL ρ m (cE tm d v) (a.put d x).tmps := by
 cases d with
 | none => exact h
 | some d =>
  refine ⟨by simp [cE, Act.put, jL, h.len], fun i u y hu hy => ?_⟩
  simp only [cE, tJ] at hu
  simp only [Act.put, Array.getElem?_setIfInBounds] at hy
  by_cases e : i = d
  ·subst e
   by_cases hl : i < tm.length
   ·have hl' : i < a.tmps.size := by rw [← h.len]; exact hl
    simp only [hl, and_self, if_true, Option.some.injEq] at hu
    simp only [hl', if_true, Option.some.injEq] at hy
    subst hu; subst hy
    exact hv
   ·have : tm[i]? = none := List.getElem?_eq_none (by omega)
    simp [hl, this] at hu
  ·have e' : ¬ d = i := fun h => e h.symm
   simp only [e, false_and, if_false] at hu
   simp only [e', if_false] at hy
   exact h.at_ i u y hu hy
theorem R.LV {v : aA} {x : Value} (h : R ρ m v x) (h1 : ∀ b, v ≠ .bool b) (h2 : ∀ b, v ≠ .gG b) (h3 : v ≠ .aB) : ∀ b, x ≠ .bool b := by
 cases h with
 | bool b => exact absurd rfl (h1 b)
 | gG b => exact absurd rfl (h2 b)
 | aB => exact absurd rfl h3
 | _ => intro b hb; cases hb
theorem BX {ops : Array Oper} {tm : List aA} {a : Act} {o : Oper} {b : Bool} (h : (wanted ops.toList tm o.guard).run s = .ok b s') (ho : bU s') (ht : RL ρ m tm a.tmps) :
  fS s s' ∧ Region.wanted o (yielded ops a.tmps) = b := by
 unfold wanted at h
 unfold Region.wanted
 cases hg : o.guard with
 | none =>
  rw [hg] at h
  obtain ⟨rfl, rfl⟩ := aC h
  exact ⟨.refl _, rfl⟩
 | some p =>
  rw [hg] at h
  obtain ⟨j, want⟩ := p
  simp only [Array.getElem?_toList] at h
  simp only [yielded]
  cases hd : (ops[j]?).bind (·.dst) with
  | none =>
   rw [hd] at h
   obtain ⟨rfl, rfl⟩ := aC h
   exact ⟨.refl _, rfl⟩
  | some d =>
   rw [hd] at h
   simp only at h
   simp only [Option.bind_some]
   by_cases hl : d < tm.length
   ·have h1 : tm[d]? = some tm[d] := List.getElem?_eq_getElem hl
    have hl' : d < a.tmps.size := by rw [← ht.len]; exact hl
    have h2 : a.tmps[d]? = some a.tmps[d] := Array.getElem?_eq_getElem hl'
    have hr := ht.at_ d _ _ h1 h2
    rw [gJ, h1, Option.getD_some] at h
    rw [h2]
    generalize tm[d] = v at *
    generalize a.tmps[d] = x at *
    unfold kF at h
    split at h
    ·rename_i b
     obtain ⟨t, s1, h3, h4, ho1, _, _⟩ := M.aJ h ho
     obtain ⟨rfl, e⟩ := oO h3 ho1
     obtain ⟨rfl, rfl⟩ := aC h4
     obtain rfl := hr.bool_inv
     refine ⟨e, ?_⟩
     cases t <;> cases want <;> rfl
    ·rename_i b
     obtain ⟨rfl, rfl⟩ := aC h
     obtain rfl := hr.oM
     refine ⟨.refl _, ?_⟩
     cases b <;> cases want <;> rfl
    ·exact (aD h).elim
    ·rename_i h3 h4 h5
     obtain ⟨rfl, rfl⟩ := aC h
     refine ⟨.refl _, ?_⟩
     have := hr.LV (fun b => h3 b) (fun b => h4 b) h5
     cases x with
     | bool b => exact absurd rfl (this b)
     | _ => rfl
   ·have h1 : tm[d]? = none := List.getElem?_eq_none (Nat.not_lt.1 hl)
    have h2 : a.tmps[d]? = none := Array.getElem?_eq_none (by rw [← ht.len]; exact Nat.not_lt.1 hl)
    rw [gJ, h1, Option.getD_none] at h
    rw [h2]
    have h : (M.pure false).run s = .ok b s' := h
    obtain ⟨rfl, rfl⟩ := aC h
    exact ⟨.refl _, rfl⟩
def SI (P : Program) (ρ : Ren) (m : Mem) (s : St) (w : World) (s' : St) (v : aA) (res : Result Next) : Prop :=
 ∃ x w' ρ', (res = .ok (.value x) w' ∨ (res = .ok .skip w' ∧ x = Go.undef)) ∧ eW P ρ m s w ρ' m s' w' ∧ R ρ' m v x
theorem Out.next {P : Program} {r : Sem Value} (h : Out P ρ m s w s' v (r.run P w)) : SI P ρ m s w s' v ((do pure (.value (← r)) : Sem Next).run P w) := by
 obtain ⟨x, w', ρ', h1, h2, h3⟩ := h
 exact ⟨x, w', ρ', .inl (by simp only [Sem.run_bind, h1, Result.andThen_ok, Sem.run_pure]), h2, h3⟩
theorem kN : R ρ m undef Go.undef := .tup _ _ rfl (fun i v x hv => by simp at hv)
theorem yR {a : aA} (h : (nilCheck a).run s = .ok v s') {x : Value} (hx : R ρ m a x) : s' = s ∧ R ρ m v x ∧ x ≠ .pointer none ∧ x ≠ .nilIface ∧ x ≠ .nilFunc ∧ (∀ n a b, x ≠ .func (.method n) a b) := by
 unfold nilCheck at h
 split at h
 ·obtain ⟨rfl, rfl⟩ := aC h
  refine ⟨rfl, hx, ?_⟩
  cases hx
  exact ⟨by simp, by simp, by simp, by simp⟩
 ·obtain ⟨rfl, rfl⟩ := aC h
  refine ⟨rfl, hx, ?_⟩
  cases hx
  exact ⟨by simp, by simp, by simp, by simp⟩
 ·split at h
  ·obtain ⟨rfl, rfl⟩ := aC h
   refine ⟨rfl, hx, ?_⟩
   cases hx with
   | fn _ _ _ _ _ _ hf =>
    cases hf
    exact ⟨by simp, by simp, by simp, by simp⟩
  ·obtain ⟨rfl, rfl⟩ := aC h
   refine ⟨rfl, hx, ?_⟩
   cases hx with
   | fn _ _ _ _ _ _ hf =>
    cases hf
    exact ⟨by simp, by simp, by simp, by simp⟩
  ·exact (aD h).elim
 ·exact (aD h).elim
theorem yP {k : aA → M aA} {l : List aA} (h : (fW k l).run s = .ok v s') : ∃ x, l = [x] ∧ (k x).run s = .ok v s' := by
 unfold fW at h
 split at h
 ·exact ⟨_, rfl, h⟩
 ·exact (aD h).elim
theorem yC {k : aA → aA → M aA} {l : List aA} (h : (fU k l).run s = .ok v s') : ∃ x y, l = [x, y] ∧ (k x y).run s = .ok v s' := by
 unfold fU at h
 split at h
 ·exact ⟨_, _, rfl, h⟩
 ·exact (aD h).elim
theorem A1 {k : aA → List aA → M aA} {l : List aA} (h : (eF k l).run s = .ok v s') : ∃ x y, l = x :: y ∧ (k x y).run s = .ok v s' := by
 unfold eF at h
 split at h
 ·exact ⟨_, _, rfl, h⟩
 ·exact (aD h).elim
theorem RV.array {l : List aA} {c : Array Value} (h : RL ρ m l c) : RV ρ m l c.toList := by
 obtain ⟨c⟩ := c
 obtain ⟨hl, ha⟩ := h
 simp only [List.size_toArray] at hl
 induction l generalizing c with
 | nil =>
  cases c with
  | nil => exact .nil
  | cons => simp at hl
 | cons v l ih =>
  cases c with
  | nil => simp at hl
  | cons x c => exact .cons (ha 0 v x (by simp) (by simp)) (ih c (fun i v x hv hx => ha (i + 1) v x (by simpa using hv) (by simpa using hx)) (by simpa using hl))
theorem KF {ts : List TypeId} {a : aA} (h : (cP E ts a).run s = .ok v s') (hr : Rel E.P ρ m s.heap.get w) {x : Value} (hx : R ρ m a x) (ty : TypeId) :
  Out E.P ρ m s w s' v ((Builtin.len_ ts.toArray ty #[x]).run E.P w) := by
 unfold cP at h
 split at h
 ·rename_i t tl
  obtain ⟨d, s1, h1, h2⟩ := M.aK h
  obtain ⟨⟨i, hi, rfl⟩, rfl⟩ := eY h1
  have hu := hi.dT (w := w)
  have h0 : ((t :: tl).toArray : Array TypeId)[0]? = some t := rfl
  have hx0 : (#[x] : Array Value)[0]? = some x := rfl
  cases hd : i.desc with
  | array n e =>
   rw [hd] at h2 hu
   obtain ⟨rfl, rfl⟩ := aC h2
   simp only [Builtin.len_, h0, hx0, Sem.run_bind, hu, Result.andThen_ok, Sem.run_pure]
   exact .same hr (.refl _) (.int _ _)
  | pointer e =>
   rw [hd] at h2 hu
   obtain ⟨d2, s2, h3, h4⟩ := M.aK h2
   obtain ⟨⟨j, hj, rfl⟩, rfl⟩ := eY h3
   have hv := hj.dT (w := w)
   cases hd2 : j.desc with
   | array n e =>
    rw [hd2] at h4 hv
    obtain ⟨rfl, rfl⟩ := aC h4
    simp only [Builtin.len_, h0, hx0, Sem.run_bind, hu, hv, Result.andThen_ok, Sem.run_pure]
    exact .same hr (.refl _) (.int _ _)
   | _ => rw [hd2] at h4; exact (aD h4).elim
  | string =>
   rw [hd] at h2 hu
   obtain ⟨l, rfl, h3⟩ := kT h2
   obtain ⟨rfl, rfl⟩ := aC h3
   obtain rfl := hx.gX
   simp only [Builtin.len_, h0, hx0, Sem.run_bind, hu, Result.andThen_ok, Sem.run_pure]
   exact .same hr (.refl _) (.int _ _)
  | slice e =>
   rw [hd] at h2 hu
   simp only at h2
   split at h2
   ·exact (aD h2).elim
   ·rename_i hns
    obtain ⟨n, s2, h3, h4⟩ := M.aK h2
    obtain ⟨rfl, rfl⟩ := aC h4
    obtain ⟨rfl, hl⟩ := m7 (P := E.P) (w := w) h3 hx
    have go : ∀ (dN : Option Addr) (l c : Nat), x = .slice dN l c → Out E.P ρ m s' w s' (.int .i64 n) ((Builtin.len_ (t :: tl).toArray ty #[x]).run E.P w) := by
     rintro dN l c rfl
     have : l = n := by
      have := hl
      simp only [Builtin.lenOf] at this
      injection this
     subst this
     simp only [Builtin.len_, h0, hx0, Sem.run_bind, hu, Result.andThen_ok, Sem.run_pure]
     exact .same hr (.refl _) (.int _ _)
    unfold lenOf at h3
    split at h3
    ·cases hx; exact go _ _ _ rfl
    ·cases hx; exact go _ _ _ rfl
    ·cases hx <;> exact go _ _ _ rfl
    ·cases hx <;> exact go _ _ _ rfl
    ·exact absurd rfl (hns _)
    ·exact (aD h3).elim
  | map kt et =>
   rw [hd] at h2 hu
   simp only at h2
   split at h2
   ·obtain ⟨rfl, rfl⟩ := aC h2
    cases hx
    simp only [Builtin.len_, h0, hx0, Sem.run_bind, hu, Result.andThen_ok, Sem.run_pure]
    exact .same hr (.refl _) (.int _ _)
   ·rename_i id
    obtain ⟨b, s2, h3, h4⟩ := M.aK h2
    obtain ⟨hg, e1⟩ := eC h3
    split at h4
    ·rename_i es ck
     obtain ⟨r, arr, rfl, hρ, hgo, hw, hm⟩ := nX hr hg hx
     obtain ⟨rfl, rfl⟩ := aC h4
     have hl : (es.length : Int) = (arr.size : Int) := by have := hm.len; simp at this; omega
     simp only [Builtin.len_, h0, hx0, Sem.run_bind, hu, hgo, Result.andThen_ok, Sem.run_pure]
     rw [hl]
     exact .same hr e1 (.int _ _)
    ·exact (aD h4).elim
   ·exact (aD h2).elim
  | _ => rw [hd] at h2; exact (aD h2).elim
 ·exact (aD h).elim
theorem KG {ts : Array TypeId} {ty : TypeId} {a : aA} (h : (N3 E ts.toList a).run s = .ok v s') (hr : Rel E.P ρ m s.heap.get w) {x : Value} (hx : R ρ m a x) :
  Out E.P ρ m s w s' v ((Builtin.cap_ ts ty #[x]).run E.P w) := by
 unfold N3 at h
 split at h
 ·rename_i t tl hts
  obtain ⟨tsl⟩ := ts
  simp only at hts
  subst hts
  obtain ⟨d, s1, h1, h2⟩ := M.aK h
  obtain ⟨⟨i, hi, rfl⟩, rfl⟩ := eY h1
  have hu := hi.dT (w := w)
  cases hd : i.desc with
  | slice e =>
   rw [hd] at h2 hu
   obtain ⟨n, s2, h3, h4⟩ := M.aK h2
   obtain ⟨rfl, rfl⟩ := aC h4
   have go : ∀ (dN : Option Addr) (l : Nat), x = .slice dN l n → s' = s1 → Out E.P ρ m s1 w s' (.int .i64 n) ((Builtin.cap_ (t :: tl).toArray ty #[x]).run E.P w) := by
    rintro dN l rfl rfl
    simp only [Builtin.cap_, List.getElem?_toArray, List.getElem?_cons_zero, Sem.run_bind, hu, Result.andThen_ok, Sem.run_pure]
    exact .same hr (.refl _) (.int _ _)
   unfold JT at h3
   split at h3
   ·obtain ⟨rfl, rfl⟩ := aC h3; cases hx; exact go _ _ rfl rfl
   ·obtain ⟨rfl, rfl⟩ := aC h3; cases hx; exact go _ _ rfl rfl
   ·split at h3
    ·obtain ⟨rfl, rfl⟩ := aC h3
     cases hx with
     | slx _ _ _ c _ r hρ hl => exact go _ _ rfl rfl
     | sl0 _ _ _ _ ad hc hn' =>
      have := hc _ rfl
      subst this
      exact go _ _ rfl rfl
    ·exact (aD h3).elim
   ·exact (aD h3).elim
  | _ => rw [hd] at h2; exact (aD h2).elim
 ·exact (aD h).elim
theorem DG {ts : Array TypeId} {ty : TypeId} {a : aA} (h : (nB E ts.toList a).run s = .ok v s') (ho : bU s') (hr : Rel E.P ρ m s.heap.get w) {x : Value} (hx : R ρ m a x) :
  Out E.P ρ m s w s' v ((Builtin.clear_ ts ty #[x]).run E.P w) := by
 unfold nB at h
 split at h
 ·rename_i t tl hts
  obtain ⟨tsl⟩ := ts
  simp only at hts
  subst hts
  obtain ⟨d, s1, h1, h2⟩ := M.aK h
  obtain ⟨⟨i, hi, rfl⟩, rfl⟩ := eY h1
  have hu := hi.dT (w := w)
  cases hd : i.desc with
  | slice e =>
   rw [hd] at h2 hu
   have none_ : ∀ (dN : Option Addr) (c : Nat), x = .slice dN 0 c → (Builtin.clear_ (t :: tl).toArray ty #[x]).run E.P w = .ok (.tuple #[]) w := by
    rintro dN c rfl
    cases dN <;> simp only [Builtin.clear_, List.getElem?_toArray, List.getElem?_cons_zero, Sem.run_bind, hu, Result.andThen_ok, Sem.run_pure]
   have tup0 : ∀ {ρ : Ren}, R ρ m (.tup []) (.tuple #[]) := fun {ρ} => .tup _ _ rfl (fun i v x hv => by simp at hv)
   simp only at h2
   split at h2
   ·obtain ⟨rfl, rfl⟩ := aC h2; cases hx; rw [none_ _ _ rfl]; exact .same hr (.refl _) tup0
   ·obtain ⟨rfl, rfl⟩ := aC h2; cases hx; rw [none_ _ _ rfl]; exact .same hr (.refl _) tup0
   ·rename_i id off len cap sz
    obtain ⟨nothing, s2, h3, h4, ho2, _, _⟩ := M.aJ h2 ho
    obtain ⟨hq, e2⟩ := oO h3 ho2
    cases nothing with
    | true =>
     have h0 : len = 0 := Nat.eq_of_beq_eq_true hq.symm
     subst h0
     obtain ⟨rfl, rfl⟩ := aC h4
     cases hx <;> (rw [none_ _ _ rfl]; exact .same hr e2 tup0)
    | false =>
     have hne : ¬ len = 0 := by intro hh; rw [hh] at hq; cases hq
     obtain ⟨j, s3, h5, h6⟩ := M.aK h4
     obtain ⟨hj, rfl⟩ := kR h5
     obtain ⟨hsz, h7⟩ := eH h6
     obtain ⟨_, s4, h8, h9⟩ := M.aK h7
     obtain ⟨rfl, rfl⟩ := aC h9
     obtain ⟨z, hz, hzi⟩ := hj.kW (w := w)
     have hzc := hj.rZ (ρ := ρ) (m := m) hzi
     have hreps := qX hzc len
     have go : ∀ (r : RB) (c : Nat), ρ id = some r → x = .slice (some ⟨r.b, off, none⟩) len c → Out E.P ρ m s1 w s' (.tup []) ((Builtin.clear_ (t :: tl).toArray ty #[x]).run E.P w) := by
      intro r c hρ hxe
      subst hxe
      obtain ⟨ad, w', q1, q2, q3⟩ := iG h8 ho (hr.bS e2) (.ptr id off r hρ) (xs := (Builtin.zeroCells z.cells len).toList) (by simpa [Builtin.zeroCells] using hreps.len) (fun j p q hp hq => hreps.at_ j p q hp (by rw [Array.getElem?_toList] at hq; exact hq))
      injection q1 with q1
      injection q1 with q1
      subst q1
      refine ⟨_, w', ρ, ?_, q3.after e2, tup0⟩
      cases len with
      | zero => exact absurd rfl hne
      | succ len => simp only [Builtin.clear_, List.getElem?_toArray, List.getElem?_cons_zero, Sem.run_bind, hu, Result.andThen_ok, hz, q2, Sem.run_pure]
     cases hx with
     | slx _ _ _ c _ r hρ hl => exact go r c hρ rfl
     | slw _ _ _ c _ r hρ hl hs hc => exact go r c hρ rfl
     | sl0 _ _ _ _ ad hc hn' => exact absurd rfl hne
   ·exact (aD h2).elim
  | map kt et =>
   have tup0 : R ρ m (.tup []) (.tuple #[]) := .tup _ _ rfl (fun i v x hv => by simp at hv)
   rw [hd] at h2 hu
   simp only at h2
   split at h2
   ·obtain ⟨rfl, rfl⟩ := aC h2
    cases hx
    simp only [Builtin.clear_, List.getElem?_toArray, List.getElem?_cons_zero, Sem.run_bind, hu, Result.andThen_ok, Sem.run_pure]
    exact .same hr (.refl _) tup0
   ·rename_i id
    obtain ⟨b, s2, h3, h4⟩ := M.aK h2
    obtain ⟨hg, e1⟩ := eC h3
    unfold lX at h4
    split at h4
    ·rename_i es ck
     obtain ⟨r, arr, rfl, hρ, hgo, hw, hm⟩ := nX hr hg hx
     obtain ⟨_, s3, h5, h6⟩ := M.aK h4
     obtain ⟨rfl, rfl⟩ := aC h6
     obtain ⟨k1, k2⟩ := lP (arr' := #[]) hr hg hρ e1 h5 hw .nil
     refine ⟨.tuple #[], _, ρ, ?_, k2, tup0⟩
     simp only [Builtin.clear_, List.getElem?_toArray, List.getElem?_cons_zero, Sem.run_bind, hu, hgo, Result.andThen_ok, k1, Sem.run_pure]
    ·exact (aD h4).elim
   ·exact (aD h2).elim
  | _ => rw [hd] at h2; exact (aD h2).elim
 ·exact (aD h).elim
theorem BJ {b : Builtin} {ts : Array TypeId} {ty : TypeId} {cs : Array Bool} {args : List aA} {xs : Array Value} (h : (builtin E b ts.toList args).run s = .ok v s') (ho : bU s') (hr : Rel E.P ρ m s.heap.get w) (hf : eX ρ s s')
  (hx : RV ρ m args xs.toList) : SI E.P ρ m s w s' v ((Go.builtin b ts ty cs xs).run E.P w) := by
 unfold builtin at h
 obtain ⟨xl⟩ := xs
 split at h
 ·obtain ⟨a, rfl, h2⟩ := yP h
  cases hx with
  | cons ha ht =>
   cases ht
   have := KF h2 hr ha ty
   rw [Array.toArray_toList] at this
   exact this.next
 ·obtain ⟨a, b, rfl, h2⟩ := yC h
  cases hx with
  | cons ha ht =>
   cases ht with
   | cons hb ht =>
    cases ht
    unfold fP at h2
    split at h2
    ·rename_i t t2 bM hts
     obtain ⟨d2, s1, h3, h4⟩ := M.aK h2
     obtain ⟨⟨i2, hi2, rfl⟩, rfl⟩ := eY h3
     split at h4
     ·rename_i hd2
      cases bM with
      | nil => exact (BO (ty := ty) (by rw [hts]) hi2 hd2 (by rw [hts] at h4; exact h4) ho hr hf ha hb).next
      | cons t3 bM => rw [hts] at h4; exact (aD h4).elim
     ·rename_i hd2
      exact (DI (ty := ty) hts hi2 hd2 h4 ho hr hf ha hb).next
    ·exact (aD h2).elim
 ·obtain ⟨a, b, rfl, h2⟩ := yC h
  cases hx with
  | cons ha ht =>
   cases ht with
   | cons hb ht =>
    cases ht
    unfold eL at h2
    split at h2
    ·rename_i t bM hts
     exact (JI (ty := ty) (by rw [← Array.getElem?_toList, hts]; rfl) h2 ho hr ha hb).next
    ·exact (aD h2).elim
 ·obtain ⟨a, l, rfl, h2⟩ := A1 h
  cases hx with
  | cons ha ht =>
   exact Out.next (r := Builtin.min_ ts ty _) (uY (f := min2) (g := Builtin.min2) (fun h hr x y hx hy => I2 h hr hx hy) h2 hr ha ht)
 ·obtain ⟨a, l, rfl, h2⟩ := A1 h
  cases hx with
  | cons ha ht =>
   exact Out.next (r := Builtin.max_ ts ty _) (uY (f := max2) (g := Builtin.max2) (fun h hr x y hx hy => I4 h hr hx hy) h2 hr ha ht)
 ·obtain ⟨a, rfl, h2⟩ := yP h
  cases hx with
  | cons ha ht =>
   cases ht
   have := KG (ty := ty) h2 hr ha
   rw [Array.toArray_toList] at this
   exact this.next
 ·obtain ⟨a, rfl, h2⟩ := yP h
  cases hx with
  | cons ha ht =>
   cases ht
   have := DG (ty := ty) h2 ho hr ha
   rw [Array.toArray_toList] at this
   exact this.next
 ·obtain ⟨a, b, rfl, h2⟩ := yC h
  cases hx with
  | cons ha ht =>
   cases ht with
   | cons hb ht =>
    cases ht
    have := BK (ty := ty) h2 ho hr ha hb
    rw [Array.toArray_toList] at this
    exact this.next
 ·exact (aD h).elim
theorem D4 {rec : Rec} {o : Oper} {tm : List aA} {a : Act} (h : (execOp E rec tm o.op).run s = .ok v s') (ho : bU s') (hr : Rel E.P ρ m s.heap.get w) (hf : eX ρ s s') (ht : RL ρ m tm a.tmps)
  (hc : ∀ c f, o.op = .call c → c.callee ≠ .value f) : SI E.P ρ m s w s' v ((Go.execOp a.eval o).run E.P w) := by
 obtain ⟨dst, op, type, pos, after, guard⟩ := o
 simp only at h hc
 unfold execOp at h
 split at h
 case h_1 x =>
  obtain ⟨rfl, rfl⟩ := aC h
  exact ⟨_, w, ρ, .inl rfl, .bS hr (.refl _), cA ht _⟩
 case h_2 x =>
  obtain ⟨rfl, rfl⟩ := aC h
  exact ⟨_, w, ρ, .inl rfl, .bS hr (.refl _), cA ht _⟩
 case h_3 c x y =>
  obtain ⟨t, s1, h1, h2, ho1, _, _⟩ := M.aJ h ho
  obtain ⟨hb, e⟩ := xZ h1 ho1
  have hcv : a.eval c = .bool t := by
   have := cA ht c
   rcases hb with hb | hb
   ·rw [hb] at this; exact this.bool_inv
   ·rw [hb] at this; exact this.oM
  cases t with
  | true =>
   obtain ⟨rfl, rfl⟩ := aC h2
   refine ⟨a.eval x, w, ρ, .inl ?_, .bS hr e, cA ht _⟩
   simp only [Go.execOp, Sem.run_bind, hcv, asBool, Sem.run_pure, Result.andThen_ok, if_true]
  | false =>
   obtain ⟨rfl, rfl⟩ := aC h2
   refine ⟨a.eval y, w, ρ, .inl ?_, .bS hr e, cA ht _⟩
   simp only [Go.execOp, Sem.run_bind, hcv, asBool, Sem.run_pure, Result.andThen_ok, Bool.false_eq_true, if_false]
 case h_4 t =>
  obtain ⟨z, s1, h1, h2⟩ := M.aK h
  obtain ⟨⟨i, hi, rfl⟩, rfl⟩ := rW h1
  obtain ⟨zv, hz, hzi⟩ := hi.kW (w := w)
  have hzr : R ρ m i.zero zv := hzi ▸ gZ zv
  obtain ⟨ad, w', ρ', k1, k2, k3⟩ := uN h2 ho hr hf hzr
  refine Out.next (r := Instr.alloc t true (.tuple #[])) ⟨_, w', ρ', ?_, k2, k3⟩
  simp only [Instr.alloc, Sem.run_bind, hz, Result.andThen_ok, k1, Sem.run_pure]
 case h_5 t x =>
  obtain ⟨ad, w', ρ', k1, k2, k3⟩ := uN h ho hr hf (cA ht x)
  refine Out.next (r := Instr.box t (a.eval x)) ⟨_, w', ρ', ?_, k2, k3⟩
  simp only [Instr.box, Sem.run_bind, Result.andThen_ok, k1, Sem.run_pure]
 case h_6 t ps =>
  have := G1 h ho hr (uJ ht ps.toList)
  have e : (ps.toList.map fun (i, x) => (i, a.eval x)).toArray = ps.map fun (i, x) => (i, a.eval x) := by
   apply Array.ext'; simp
  rw [e] at this
  exact this.next
 case h_7 t n ps =>
  have := vU h ho hr hf (uJ ht ps.toList)
  have e : (ps.toList.map fun (i, x) => (i, a.eval x)).toArray = ps.map fun (i, x) => (i, a.eval x) := by
   apply Array.ext'; simp
  rw [e] at this
  exact this.next
 case h_8 t x => exact (IL h ho hr (cA ht x)).next
 case h_9 t x y =>
  obtain ⟨u, s1, h1, h2⟩ := M.aK h
  obtain ⟨rfl, rfl⟩ := aC h2
  obtain ⟨w', k1, k2⟩ := ER h1 ho hr (cA ht x) (cA ht y)
  refine ⟨Go.undef, w', ρ, .inr ⟨?_, rfl⟩, k2, kN⟩
  simp only [Go.execOp, Sem.run_bind, k1, Result.andThen_ok, Sem.run_pure]
 case h_10 x =>
  have hx := cA ht x
  obtain ⟨rfl, k1, k2, k3, k4, k5⟩ := yR h hx
  refine ⟨a.eval x, w, ρ, .inl ?_, .bS hr (.refl _), k1⟩
  simp only [Go.execOp]
  generalize a.eval x = y at *
  cases y with
  | pointer p => cases p with
   | none => exact absurd rfl k2
   | some p => rfl
  | nilIface => exact absurd rfl k3
  | nilFunc => exact absurd rfl k4
  | func f p q =>
   cases f with
   | method nm => exact absurd rfl (k5 nm p q)
   | _ => rfl
  | _ => rfl
 case h_11 bop t x y _ => exact (G4 h ho hr (cA ht x) (cA ht y) x y).next
 case h_12 uop _ x => exact (GF h ho hr (cA ht x)).next
 case h_13 sr ds x => exact (BB h ho hr hf (cA ht x)).next
 case h_14 f x y =>
  split at h
  ·rename_i g
   obtain ⟨rfl, rfl⟩ := aC h
   have hx := uK ht x
   have hy := uK ht y
   exact Out.next (r := Instr.makeFunc (.func g) (x.map a.eval) (y.map a.eval)) ⟨_, w, ρ, rfl, .bS hr (.refl _), .fn _ _ _ _ _ _ (.func g) hx.len hy.len hx.at_ hy.at_⟩
  ·exact (aD h).elim
 case h_15 t l c => exact (wM h ho hr hf (cA ht l) (cA ht c)).next
 case h_16 t x lo hi mx => exact (ES h ho hr (cA ht x) (yN ht lo) (yN ht hi) (yN ht mx)).next
 case h_17 t x f => exact (wO h hr (cA ht x)).next
 case h_18 t x f => exact (FQ h hr (cA ht x)).next
 case h_19 t x i => exact (wN h ho hr (cA ht x) (cA ht i)).next
 case h_20 t x i => exact (FK h ho hr (cA ht x) (cA ht i)).next
 case h_21 t x => exact (EY h ho hr hf (cA ht x)).next
 case h_22 x st =>
  split at h
  ·exact (HY h ho hr (cA ht x)).next
  ·exact (aD h).elim
 case h_23 x i => exact (B4 h hr (cA ht x)).next
 case h_24 c =>
  unfold cN at h
  obtain ⟨callee, cargs, ctys⟩ := c
  simp only at h
  split at h
  ·rename_i f
   exact absurd rfl (hc _ f rfl)
  ·rename_i b
   have := BJ (ty := type) (cs := cargs.map fun | .const _ => true | _ => false) h ho hr hf (xs := cargs.map a.eval) (by simpa using DW ht cargs.toList)
   simp only [Go.execOp, resolve, Sem.run_bind, Sem.run_pure, Result.andThen_ok, invoke]
   exact this
  ·exact (aD h).elim
 case h_25 t r =>
  refine (AM (t := t) h hr hf (r' := r.map a.eval) fun e => ?_).next
  cases r with
  | none => rfl
  | some r => cases e
 case h_26 x => exact (FU h ho hr (cA ht x)).next
 case h_27 t x k ok => exact (CS h ho hr (cA ht x) (cA ht k)).next
 case h_28 t x k y =>
  obtain ⟨rfl, w', ρ', k1, k2⟩ := pN h ho hr (cA ht x) (cA ht k) (cA ht y)
  exact ⟨Go.undef, w', ρ', .inr ⟨by simp only [Go.execOp, Sem.run_bind, k1, Result.andThen_ok, Sem.run_pure], rfl⟩, k2, kN⟩
 case h_29 t x k y =>
  obtain ⟨rfl, w', ρ', k1, k2⟩ := pN h ho hr (cA ht x) (cA ht k) (cA ht y)
  exact ⟨Go.undef, w', ρ', .inr ⟨by simp only [Go.execOp, Sem.run_bind, k1, Result.andThen_ok, Sem.run_pure], rfl⟩, k2, kN⟩
 case h_30 t x k => exact (yT h ho hr (cA ht x) (cA ht k)).next
 case h_31 t x st y =>
  obtain ⟨rfl, w', ρ', k1, k2⟩ := vC (t := t) h ho hr (cA ht x) (cA ht st) (cA ht y)
  exact ⟨Go.undef, w', ρ', .inr ⟨by simp only [Go.execOp, Sem.run_bind, k1, Result.andThen_ok, Sem.run_pure], rfl⟩, k2, kN⟩
 case h_32 => exact (aD h).elim
end
end Go.Am
set_option linter.unusedSimpArgs false
set_option linter.unusedVariables false
namespace Go.Am
open Go
theorem Fw.depth (o : Option Nat) {n : Nat} : (Fw o).depth.isSome = true → 1 ≤ n := fun h => by cases h
theorem Fw.NT {o : Option Nat} {n : Nat} {P : Program} {f : FuncId} {args : Array Value} {w : World} {K : Ending → World → Prop} (h : Calls P f args w K) : CallsIn (Fw o) n P f args w K :=
 (callsIn_wide (n := n)).2 h
section
variable {P : Program} {b : Frame} {a : Act} {k : List Item} {cs : List Frame} {w : World}
theorem j7 {c : Code} : Go.step P (lone (b.atR a (.code (.scope c) :: k)) cs w) = .next (lone (b.atR a (.code c :: .inScope c :: k)) cs w) :=
 step_lone_go (by simp [stepG, stepG.exec, Frame.atR])
theorem wG {c : Code} : Go.step P (lone (b.atR a (.inScope c :: k)) cs w) = .next (lone (b.atR a k) cs w) :=
 step_lone_go (by simp [stepG, stepG.exec, Frame.atR])
end
def PH (Q : Exit → Act → World → Prop) : Exit → Act → World → Prop
 | .goto _, _, _ => False
 | e, a, w => Q e a w
section
variable {F : Fence} {n : Nat} {P : Program} {Q : Exit → Act → World → Prop} {a : Act} {w : World}
theorem pG {c : Code} (h : c.wpIn F n P (PH Q) a w) : (Code.scope c).wpIn F n P Q a w := by
 intro b k cs hro hb hr
 have h0 : (lone (b.atR a (.code (.scope c) :: k)) cs w).fenced P F := fenced_calm hb hr rfl
 obtain ⟨e, a₁, w₁, hq, harr⟩ := h b (.inScope c :: k) cs hro hb hr
 cases e with
 | normal => exact ⟨.normal, a₁, w₁, hq, .head h0 j7 (StepsIn.trans harr (.one (fenced_calm hb hr rfl) wG))⟩
 | exit id =>
  have hx : exitTo id (.inScope c :: k) = exitTo id k := by simp [exitTo]
  exact ⟨.exit id, a₁, w₁, hq, fun k' hk => .head h0 j7 (harr.1 k' (by rw [hx]; exact hk)),
   fun hr' hk => let ⟨k₁, h1, h2⟩ := harr.2 hr' (by rw [hx]; exact hk); ⟨k₁, h1, .head h0 j7 h2⟩⟩
 | goto l => exact hq.elim
 | ret => exact ⟨_, a₁, w₁, hq, .of_steps (.one h0 j7) harr⟩
 | panic ch => exact ⟨_, a₁, w₁, hq, .of_steps (.one h0 j7) harr⟩
 | outgrown => exact ⟨_, a₁, w₁, hq, .of_steps (.one h0 j7) harr⟩
theorem NF {p : Nat → Prop} : ∀ j, p j → ∃ i, p i ∧ ∀ k, p k → i ≤ k := by
 intro j
 induction j using Nat.strongRecOn with
 | _ j ih =>
  intro h
  by_cases hh : ∃ i, i < j ∧ p i
  ·obtain ⟨i, hi, hp⟩ := hh
   exact ih i hi hp
  ·refine ⟨j, h, fun k hk => ?_⟩
   rcases Nat.lt_or_ge k j with hlt | hge
   ·exact absurd ⟨k, hlt, hk⟩ hh
   ·exact hge
open Classical in
theorem wE {c : Code} (I : Nat → Act → World → Prop) (zero : ∀ a w, ¬ I 0 a w)
  (round : ∀ j a w, I (j + 1) a w → c.wpIn F n P (Exit.then (fun a' w' => I j a' w') Q) a w) (j : Nat) (h : I j a w) : (Code.loop c).wpIn F n P Q a w := by
 let J : Act → World → Prop := fun a w => ∃ i, I i a w ∧ ∀ k, I k a w → i ≤ k
 let μ : Act → World → Nat := fun a w => if h : J a w then Classical.choose h else 0
 refine wpIn_loop J μ (NF (p := fun i => I i a w) j h) (fun a w hJ => ?_)
 have hm : μ a w = Classical.choose hJ := by simp only [μ]; rw [dif_pos hJ]
 have hf := Classical.choose_spec hJ
 rw [← hm] at hf
 cases hn : μ a w with
 | zero => rw [hn] at hf; exact absurd hf.1 (zero a w)
 | succ i =>
  rw [hn] at hf
  refine wpIn_mono (round i a w hf.1) (fun e a' w' hq => ?_)
  cases e with
  | normal =>
   have hJ' : J a' w' := NF (p := fun i => I i a' w') i hq
   have hm' : μ a' w' = Classical.choose hJ' := by simp only [μ]; rw [dif_pos hJ']
   have := (Classical.choose_spec hJ').2 i hq
   exact ⟨hJ', by omega⟩
  | _ => exact hq
end
theorem Mem.gK (m : Mem) : m.with [] = m := by funext b; simp [Mem.with]
theorem Mem.wU (m : Mem) (D D' : List Nat) : (m.with D).with D' = m.with (D' ++ D) := by
 funext b
 simp only [Mem.with, List.mem_append]
 by_cases h : b ∈ D' <;> by_cases h2 : b ∈ D <;> simp [h, h2]
theorem Mem.E2 {m : Mem} {D : List Nat} (h : ∀ r ∈ D, m r = none) : MLe m (m.with D) := ⟨fun b c t f hb => by
 have : b ∉ D := fun hd => by rw [h b hd] at hb; cases hb
 simp [Mem.with, this, hb]⟩
theorem Mem.DN {m : Mem} {D : List Nat} : MLe (m.with D) m := ⟨fun b c t f hb => by
 unfold Mem.with at hb
 by_cases hd : b ∈ D
 ·rw [if_pos hd] at hb; cases hb
 ·rw [if_neg hd] at hb; exact hb⟩
theorem pQ.nil (m : Mem) : pQ m [] := ⟨.nil, fun _ h => by cases h⟩
theorem pQ.append {m : Mem} {D D' : List Nat} (h : pQ m D) (h' : pQ (m.with D) D') : pQ m (D' ++ D) := by
 have key : ∀ r ∈ D', m r = Option.none ∧ r ∉ D := fun r hr => by
  have := h'.none r hr
  unfold Mem.with at this
  by_cases hd : r ∈ D
  ·rw [if_pos hd] at this; cases this
  ·rw [if_neg hd] at this; exact ⟨this, hd⟩
 refine ⟨List.nodup_append.2 ⟨h'.DY, h.DY, fun a ha b hb e => (key a ha).2 (e ▸ hb)⟩, fun r hr => ?_⟩
 rcases List.mem_append.1 hr with hr | hr
 ·exact (key r hr).1
 ·exact h.none r hr
theorem RN.mono {ρ ρ' : Ren} (h : gU ρ ρ') {x y : Option Nat} (hr : RN ρ x y) : RN ρ' x y := by
 cases hr with
 | none => exact .none
 | some id r hid => exact .some id r (h id r hid)
def mH (P : Program) (rec : Rec) : Prop := ∀ fn rnd c, rT P rnd c (rec fn rnd c)
theorem RV.U0 {ρ : Ren} {m : Mem} {l : List aA} {xs : List Value} (h : RV ρ m l xs) : RL ρ m l xs.toArray := by
 induction h with
 | nil => exact .nil
 | cons hx ht ih =>
  refine ⟨by simpa using ih.len, fun i v x hv hx' => ?_⟩
  cases i with
  | zero => simp at hv hx'; subst hv; subst hx'; exact hx
  | succ i => exact ih.at_ i v x (by simpa using hv) (by simpa using hx')
theorem Rel.drop {P : Program} {ρ : Ren} {m : Mem} {h : Nat → Option Blk} {w : World} {r : Nat} {D : List Nat} (hr : Rel P ρ (m.with (r :: D)) h w) (hm : pQ m (r :: D)) (o : Obj) : Rel P ρ (m.with D) h (World.upd w r o) := by
 have hg : w.heap[r]? = some (.deferred (some [])) := hr.mem r _ (by simp [Mem.with])
 have hlt := fJ hg
 have hle : MLe (m.with (r :: D)) (m.with D) := ⟨fun b c t f hb => by
  have := Mem.DN.le b c t f hb
  unfold Mem.with at hb ⊢
  by_cases hd : b ∈ D
  ·simp [hd] at hb
  ·simp [hd, this]⟩
 refine ⟨fun id b hb => ?_, hr.inj, fun b ob hb => ?_⟩
 ·obtain ⟨rb, ob, h1, h2, h3, h4⟩ := hr.dJ id b hb
  have hn : rb.b ∉ r :: D := fun hx => by unfold Mem.with at h4; rw [if_pos hx] at h4; cases h4
  have hn' : rb.b ≠ r := fun hx => hn (hx ▸ List.mem_cons_self)
  have hn2 : rb.b ∉ D := fun hx => hn (List.mem_cons_of_mem _ hx)
  refine ⟨rb, ob, h1, ?_, h3.mono (.refl ρ) hle, ?_⟩
  ·rw [World.oR _ _ _ hlt, if_neg hn']; exact h2
  ·unfold Mem.with at h4 ⊢; rw [if_neg hn] at h4; rw [if_neg hn2]; exact h4
 ·have hne : b ≠ r := fun hx => by
   subst hx
   have h1 : b ∉ D := (List.nodup_cons.1 hm.DY).1
   have h2 := hm.none b List.mem_cons_self
   unfold Mem.with at hb
   rw [if_neg h1, h2] at hb
   cases hb
  rw [World.oR _ _ _ hlt, if_neg hne]
  refine hr.mem b ob ?_
  unfold Mem.with at hb ⊢
  by_cases hd : b ∈ D
  ·rw [if_pos hd] at hb; rw [if_pos (List.mem_cons_of_mem _ hd)]; exact hb
  ·rw [if_neg hd] at hb; rw [if_neg (by simp [hne, hd])]; exact hb
theorem PW {P : Program} {ρ : Ren} {m : Mem} {h : Nat → Option Blk} {n : Nat} {fn : Func} {tmps : Array Value} {R : Ending → World → Prop} : ∀ (D : List Nat) (w : World), Rel P ρ (m.with D) h w → pQ m D →
  (∀ w', Rel P ρ m h w' → Fr w w' → ∃ v, (results fn tmps).run P w' = .ok v w' ∧ R (.returned v) w') → LeavesInM (Fw none) n P fn tmps R (D.map mk) .returning w := by
 intro D
 induction D with
 | nil =>
  intro w hr hm hk
  rw [Mem.gK] at hr
  exact hk w hr (.refl w)
 | cons r D ih =>
  intro w hr hm hk
  have hg : w.heap[r]? = some (.deferred (some [])) := hr.mem r _ (by simp [Mem.with])
  refine ⟨by simp, .inl ⟨r, World.upd w r (.deferred none), rfl, ?_, ?_⟩⟩
  ·simp only [Instr.takeDeferred, Sem.run_bind, hM hg (fun _ _ _ h => by cases h), Result.andThen_ok, gL hg (fun _ _ _ h => by cases h), Sem.run_pure]
  ·exact ih _ (hr.drop hm _) ⟨(List.nodup_cons.1 hm.DY).2, fun q hq => hm.none q (List.mem_cons_of_mem _ hq)⟩ (fun w' h1 h2 => hk w' h1 ((World.pR _ _ _).trans h2))
variable {E : Env}
section
variable {ρ : Ren} {m : Mem} {s s' : St} {w : World} {v : aA}
def yI (a : Array Value) : ResultVar → Sem Value
 | .tmp t => pure (a.getD t Go.undef)
 | .cell c t => do loadVar t (← asAddr (a.getD c Go.undef))
theorem yH {tm : List aA} {a : Array Value} (ht : RL ρ m tm a) : ∀ (rs : List ResultVar) {l : List aA} {s s' : St}, (bT E tm rs).run s = .ok l s' → bU s' → Rel E.P ρ m s.heap.get w →
  ∃ xs, (rs.mapM (yI a)).run E.P w = .ok xs w ∧ RV ρ m l xs ∧ fS s s' := by
 intro rs
 induction rs with
 | nil =>
  intro l s s' h ho hr
  obtain ⟨rfl, rfl⟩ := aC h
  exact ⟨[], rfl, .nil, .refl _⟩
 | cons r rs ih =>
  intro l s s' h ho hr
  have hopd : ∀ t, R ρ m (nth tm t undef) (a.getD t Go.undef) := fun t => cA (a := ⟨a, []⟩) ht (.tmp t)
  cases r with
  | tmp t =>
   obtain ⟨q, s1, h1, h2⟩ := M.aK h
   obtain ⟨rfl, rfl⟩ := aC h2
   obtain ⟨xs, k1, k2, k3⟩ := ih h1 ho hr
   refine ⟨_, ?_, .cons (hopd t) k2, k3⟩
   simp only [List.mapM_cons, yI, Sem.run_bind, Sem.run_pure, Result.andThen_ok, k1]
  | cell c t =>
   obtain ⟨q, s1, h1, h2, ho1, _, _⟩ := M.aJ h ho
   obtain ⟨q2, s2, h3, h4⟩ := M.aK h2
   obtain ⟨rfl, rfl⟩ := aC h4
   obtain ⟨ad, y, g1, g2, g3, g4⟩ := E0 h1 ho1 hr (hopd c)
   obtain ⟨xs, k1, k2, k3⟩ := ih h3 ho (hr.bS g4)
   refine ⟨_, ?_, .cons g3 k2, g4.trans k3⟩
   simp only [List.mapM_cons, yI, Sem.run_bind, Sem.run_pure, Result.andThen_ok, g1, asAddr, g2, k1]
theorem FX {fn : Func} {tm : List aA} {a : Array Value} (ht : RL ρ m tm a) (h : (eG E tm fn.results.toList).run s = .ok v s') (ho : bU s') (hr : Rel E.P ρ m s.heap.get w) :
  ∃ x, (results fn a).run E.P w = .ok x w ∧ R ρ m v x ∧ fS s s' := by
 obtain ⟨l, s1, h1, h2⟩ := M.aK h
 obtain ⟨rfl, rfl⟩ := aC h2
 obtain ⟨xs, k1, k2, k3⟩ := yH ht _ h1 ho hr
 have e : (results fn a) = (do let vs ← fn.results.mapM (yI a); pure (if h : vs.size = 1 then vs[0] else .tuple vs)) := rfl
 rw [e, ← Array.toArray_toList (xs := fn.results), List.mapM_toArray]
 simp only [Sem.run_bind, Sem.run_map, k1, Result.andThen_ok, Sem.run_pure]
 refine ⟨_, rfl, ?_, k3⟩
 cases k2 with
 | nil => exact .tup _ _ rfl (fun i v x hv => by simp at hv)
 | cons hx ht =>
  cases ht with
  | nil => simpa [bX] using hx
  | cons hy ht =>
   rename_i a1 x1 a2 x2 l xs
   have hne : ¬ (x1 :: x2 :: xs).toArray.size = 1 := by simp
   rw [dif_neg hne]
   have hl : RV ρ m (a1 :: a2 :: l) (x1 :: x2 :: xs) := .cons hx (.cons hy ht)
   have : RL ρ m (a1 :: a2 :: l) (x1 :: x2 :: xs).toArray := hl.U0
   exact .tup _ _ this.len this.at_
end
end Go.Am
set_option linter.unusedSimpArgs false
set_option linter.unusedVariables false
namespace Go.Am
open Go
variable {E : Env}
section
variable {ρ : Ren} {m : Mem} {s s' : St} {w : World} {v : aA}
theorem RL.NX (k : Nat) : RL ρ m (List.replicate k undef) (Array.replicate k Go.undef) := by
 refine ⟨by simp, fun i v x hv hx => ?_⟩
 simp only [List.getElem?_replicate, Array.getElem?_replicate] at hv hx
 split at hv
 ·simp only [Option.some.injEq] at hv
  rename_i hi
  rw [if_pos hi] at hx
  simp only [Option.some.injEq] at hx
  subst hv; subst hx
  exact kN
 ·cases hv
theorem eW.MP {P : Program} {ρ' : Ren} {D : List Nat} {s1 : St} {w1 w2 : World} (h : eW P ρ m s w ρ' (m.with D) s1 w1) (hr : Rel P ρ' m s1.heap.get w2) (hfr : Fr w1 w2) (e : fS s1 s') : eW P ρ m s w ρ' m s' w2 where
 ren := h.ren
 new := fun id hid => (h.new id hid).imp_right fun x => ⟨x.1, by rw [e.next]; exact x.2⟩
 mem := fun _ _ h => h
 rel := hr.bS e
 fr := h.fr.trans hfr
 next := by rw [e.next]; exact h.next
theorem mF {rec : Rec} (hrec : mH E.P rec) (f : FuncId) : kM E.P f (bO E rec f) := by
 intro args s v s' h ho ρ m w xs hr hf hx
 unfold bO at h
 split at h
 ·rename_i hb
  have hfok := (E.funcs.find f).ok
  rw [Nat.eq_of_beq_eq_true hb] at hfok
  obtain ⟨fn, h1, h2, h3, h4⟩ := hfok.fn
  obtain ⟨r, s1, k1, k2, ho1, n1, n2⟩ := M.aJ h ho
  obtain ⟨e, tm'⟩ := r
  refine .inl ⟨hfok.call xs w, (callsIn_wide (n := 0)).1 (callsIn_of_wp_marks (F := Fw none) h1 h2 trivial ?_)⟩
  refine hrec f none _ _ _ _ s s1 k1 ho1 ρ m w { tmps := xs ++ Array.replicate (fn.ntmps - xs.size) Go.undef, defers := [] } none 0 _ hr (hf.fst n2) ?_ .none ?_
  ·have : RL ρ m (args ++ List.replicate ((E.funcs.find f).i.ntmps - args.length) undef) (xs ++ Array.replicate (fn.ntmps - xs.size) Go.undef) := by
    rw [h3, hx.len]
    exact hx.append (RL.NX _)
   exact this
  ·intro e' a' w' ρ' D he
   have fin : ∀ (k2 : (eG E tm' (E.funcs.find f).i.results).run s1 = .ok v s'), LeavesInM (Fw none) 0 E.P fn a'.tmps (fun e w' => ∃ v_1, e = .returned v_1 ∧ ∃ ρ', eW E.P ρ m s w ρ' m s' w' ∧ R ρ' m v v_1) a'.defers .returning w' := by
    intro k2
    have hd := he.defers
    rw [List.append_nil] at hd
    rw [hd]
    refine PW D w' he.post.rel he.uP (fun w'' hr'' hfr => ?_)
    rw [← h4] at k2
    obtain ⟨x, q1, q2, q3⟩ := FX (he.tmps.mono (.refl _) Mem.DN) k2 ho hr''
    exact ⟨x, q1, x, rfl, ρ', he.post.MP hr'' hfr q3, q2⟩
   have hex := he.ex
   cases e with
   | normal => cases hex; exact fin k2
   | ret => cases hex; exact fin k2
   | exit id => exact (aD k2).elim
 ·exact (aD h).elim
theorem xK : ∀ (l : List (rU E.P)) {f : FuncId} {args : List aA} {k : M aA}, (oD E l f args k).run s = .ok v s' → (∃ h ∈ l, h.f = f ∧ (h.act args).run s = .ok v s') ∨ k.run s = .ok v s'
 | [], _, _, _, h => .inr h
 | q :: l, f, args, k, h => by
  unfold oD at h
  split at h
  ·rename_i hb
   exact .inl ⟨q, List.mem_cons_self, Nat.eq_of_beq_eq_true hb, h⟩
  ·rcases xK l h with ⟨q', hm, he, hr⟩ | h
   ·exact .inl ⟨q', List.mem_cons_of_mem _ hm, he, hr⟩
   ·exact .inr h
theorem xV {rec : Rec} (hrec : mH E.P rec) (f : FuncId) : kM E.P f (iC E rec f) := by
 intro args s v s' h ho ρ m w xs hr hf hx
 rcases xK E.uU h with ⟨q, _, rfl, hq⟩ | h
 ·exact q.ok args s v s' hq ho ρ m w xs hr hf hx
 ·exact mF hrec f args s v s' h ho ρ m w xs hr hf hx
theorem Rel.loop {P : Program} {h : Nat → Option Blk} (hr : Rel P ρ m h w) {id : Nat} {l : lU} (hg : h id = some (.loop l)) {r : RB} (hρ : ρ id = some r) :
  ∃ L, w.heap[r.b]? = some (.loop L) ∧ L.state = l.state ∧ L.pending = l.pending ∧ RL ρ m l.tmps L.tmps ∧ L.params.toList = l.params ∧ L.assign = l.assign ∧ L.body = l.body := by
 obtain ⟨rb, o, h1, h2, h3, h4⟩ := hr.dJ id _ hg
 rw [hρ] at h1
 injection h1 with h1
 subst h1
 cases h3 with
 | loop l L a b c d e f => exact ⟨L, h2, a, b, c, d, e, f⟩
theorem kA {P : Program} {b : Nat} {L : Loop} (h : w.heap[b]? = some (.loop L)) : (Instr.getLoop b).run P w = .ok L w := by
 simp only [Instr.getLoop, Sem.run_bind, hM h (fun _ _ _ h => by cases h), Result.andThen_ok, Sem.run_pure]
theorem eW.upd {P : Program} (hr : Rel P ρ m s.heap.get w) {id : Nat} {b0 b : Blk} {o : Obj} {r : RB} (hg : s.heap.get id = some b0) (hρ : ρ id = some r) (hb : BR P ρ m r b o) (hn : s'.next = s.next)
  (hh : ∀ j, s'.heap.get j = if j = id then some b else s.heap.get j) : eW P ρ m s w ρ m s' (World.upd w r.b o) where
 ren := .refl ρ
 new := fun _ h => .inl h
 mem := fun _ _ h => h
 rel := hr.upd hg hρ hb hh
 fr := World.pR _ _ _
 next := by omega
theorem uH : ∀ (ps : List (Tmp × aA)) (qs : List (Tmp × Value)) (tm : List aA) (a : Array Value), RL ρ m tm a → ps.map (·.1) = qs.map (·.1) → RV ρ m (ps.map (·.2)) (qs.map (·.2)) →
  RL ρ m (mM tm ps) (qs.foldl (fun tmps (t, a) => tmps.setIfInBounds t a) a)
 | [], [], tm, a, h, _, _ => h
 | [], q :: qs, tm, a, h, h1, _ => by simp at h1
 | p :: ps, [], tm, a, h, h1, _ => by simp at h1
 | (t, v) :: ps, (t', x) :: qs, tm, a, h, h1, h2 => by
  simp only [List.map_cons, List.cons.injEq] at h1
  obtain ⟨rfl, h1⟩ := h1
  cases h2 with
  | cons hv h2 => exact uH ps qs _ _ (tI (a := ⟨a, []⟩) h (some t) hv) h1 h2
theorem RV.length {l : List aA} {xs : List Value} (h : RV ρ m l xs) : l.length = xs.length := by
 induction h with
 | nil => rfl
 | cons _ _ ih => simp [ih]
theorem zS {rec : Rec} (hrec : mH E.P rec) {id : Nat} {args : List aA} (h : (qN rec id args).run s = .ok v s') (ho : bU s') (hr : Rel E.P ρ m s.heap.get w) (hf : eX ρ s s') {xs : Array Value} (hx : RL ρ m args xs)
  {r : RB} (hρ : ρ id = some r) (o : Option Nat) (n : Nat) :
  ∃ f tmps assign body, (Instr.yield r.b xs).run E.P w = .ok (.round r.b f tmps assign body) w ∧ RoundIn (Fw o) n E.P r.b f tmps assign body w fun e w' => ∃ x, e = .returned x ∧ ∃ ρ', eW E.P ρ m s w ρ' m s' w' ∧ R ρ' m v x := by
 obtain ⟨b, s1, h1, h2, ho1, _, n1⟩ := M.aJ h ho
 obtain ⟨hg, e1⟩ := eC h1
 obtain ⟨l, rfl, h3⟩ := nY h2
 split at h3
 ·exact (aD h3).elim
 rename_i hlen
 split at h3
 case h_2 => exact (aD h3).elim
 rename_i hst
 obtain ⟨⟨e, tm1⟩, s2, h4, h5, ho2, n2, n2'⟩ := M.aJ h3 ho
 cases e with
 | ret => exact (aD h5).elim
 | exit j => exact (aD h5).elim
 | normal =>
 obtain ⟨b2, s3, h6, h7, ho3, n3, n3'⟩ := M.aJ h5 ho
 obtain ⟨hg2, e3⟩ := eC h6
 obtain ⟨l2, rfl, h8⟩ := nY h7
 split at h8
 case h_2 => exact (aD h8).elim
 rename_i hst2
 obtain ⟨_, s4, h9, h10, ho4, n4, n4'⟩ := M.aJ h8 ho
 obtain ⟨⟨e2, tm2⟩, s5, h11, h12, ho5, n5, n5'⟩ := M.aJ h10 ho
 obtain ⟨b3, s6, h13, h14, ho6, n6, n6'⟩ := M.aJ h12 ho
 obtain ⟨hg3, e6⟩ := eC h13
 obtain ⟨l3, rfl, h15⟩ := nY h14
 obtain ⟨_, s7, h16, h17⟩ := M.aK h15
 obtain ⟨rfl, rfl⟩ := aC h17
 obtain ⟨L, q1, q2, q3, q4, q5, q6, q7⟩ := hr.loop hg hρ
 have hpl : L.params.size = xs.size := by
  have := Nat.eq_of_beq_eq_true hlen
  rw [← hx.len, this, ← q5]; simp
 refine ⟨L.fn, (L.params.zip xs).foldl (fun tmps (t, a) => tmps.setIfInBounds t a) L.tmps, L.assign, L.body, ?_, roundIn_of_wpIn (F := Fw o) trivial ?_⟩
 ·have hne : ¬ xs.size ≠ L.params.size := fun h => h hpl.symm
  simp only [Instr.yield, Sem.run_bind, kA q1, Result.andThen_ok, hne, if_false, Sem.run_pure]
 ·have hr1 := hr.bS e1
  have hf1 := hf.bS e1
  rw [← q6] at h4
  have ht0 : RL ρ m (mM l.tmps (l.params.zip args)) ((L.params.zip xs).foldl (fun tmps (t, a) => tmps.setIfInBounds t a) L.tmps) := by
   rw [← Array.foldl_toList, Array.toList_zip, q5]
   have hv := RV.array hx
   have hl : l.params.length = args.length := (Nat.eq_of_beq_eq_true hlen).symm
   have hl' : l.params.length = xs.toList.length := by rw [hl, hv.length]
   exact uH _ _ _ _ q4 (by rw [List.map_fst_zip (by omega), List.map_fst_zip (by omega)]) (by rw [List.map_snd_zip (by omega), List.map_snd_zip (by omega)]; exact hv)
  refine hrec l.fn (some id) _ _ _ _ s1 s2 h4 ho2 ρ m w { tmps := _, defers := [] } (some r.b) n _ hr1 (hf1.fst n2') ht0 (.some id r hρ) ?_
  intro e' a1 w1 ρ1 D he
  have hD := he.inRound (by simp)
  subst hD
  have hex := he.ex
  cases hex
  have hp1 := he.post
  rw [Mem.gK] at hp1
  have ht1 := he.tmps
  rw [Mem.gK] at ht1
  have hρ1 := hp1.ren id r hρ
  have hr3 := hp1.rel.bS e3
  have hg2' : s3.heap.get id = some (.loop l2) := by rw [e3.heap]; exact hg2
  obtain ⟨L2, g1, g2, g3, g4, g5, g6, g7⟩ := hp1.rel.loop hg2 hρ1
  obtain ⟨_, hn4, hset4⟩ := nL h9
  refine ⟨World.upd w1 r.b (.loop { L2 with state := .busy }), ?_, ?_⟩
  ·have : L2.state = .ready := by rw [g2, hst2]
   simp only [Instr.beginRound, Sem.run_bind, kA g1, Result.andThen_ok, gL g1 (fun _ _ _ h => by cases h), this, Sem.run_pure]
  ·have hp4 : eW E.P ρ1 m s3 w1 ρ1 m s4 (World.upd w1 r.b (.loop { L2 with state := .busy })) :=
    .upd hr3 hg2' hρ1 (.loop r { l2 with state := .busy } _ rfl g3 g4 g5 g6 g7) hn4 hset4
   have hp14 : eW E.P ρ m s w ρ1 m s4 (World.upd w1 r.b (.loop { L2 with state := .busy })) := (hp1.after e1).trans (hp4.after e3)
   have hbody : L.body = l.body := q7
   rw [← hbody] at h11
   refine hrec l.fn (some id) _ _ _ _ s4 s5 h11 ho5 ρ1 m _ a1 (some r.b) n _ hp4.rel ((hf.snd hp14).fst (by omega)) ht1 (.some id r hρ1) ?_
   intro e2' a2 w2 ρ2 D2 he2
   have hD2 := he2.inRound (by simp)
   subst hD2
   have hp5 := he2.post
   rw [Mem.gK] at hp5
   have hρ2 := hp5.ren id r hρ1
   have hr6 := hp5.rel.bS e6
   have hg3' : s6.heap.get id = some (.loop l3) := by rw [e6.heap]; exact hg3
   obtain ⟨L3, k1, k2, k3, k4, k5, k6, k7⟩ := hp5.rel.loop hg3 hρ2
   obtain ⟨_, hn7, hset7⟩ := nL h16
   have hrun : ∀ j : Option Code, (Instr.endRound r.b j).run E.P w2 = .ok (.bool j.isNone) (World.upd w2 r.b (.loop { L3 with state := if j.isNone then .ready else .done, pending := j })) := fun j => by
    simp only [Instr.endRound, Sem.run_bind, kA k1, Result.andThen_ok, gL k1 (fun _ _ _ h => by cases h), Sem.run_pure]
   have hfin : ∀ j : Option Code, sG e2 = j → j.isNone = sT e2 → ∃ x, Ending.returned (.bool j.isNone) = .returned x ∧
     ∃ ρ', eW E.P ρ m s w ρ' m s' (World.upd w2 r.b (.loop { L3 with state := if j.isNone then .ready else .done, pending := j })) ∧ R ρ' m (.gG (sT e2)) x := by
    intro j hj hjn
    refine ⟨_, rfl, ρ2, ?_, hjn ▸ .gG _⟩
    have hp7 : eW E.P ρ2 m s6 w2 ρ2 m s' (World.upd w2 r.b (.loop { L3 with state := if j.isNone then .ready else .done, pending := j })) := by
     refine .upd hr6 hg3' hρ2 (.loop r { l3 with state := (match sT e2 with | true => .ready | false => .done), pending := sG e2 } _ ?_ hj.symm k4 k5 k6 k7) hn7 hset7
     simp only [hjn]
     cases sT e2 <;> rfl
    exact hp14.trans (hp5.trans (hp7.after e6))
   have hex2 := he2.ex
   cases hex2 with
   | normal => exact ⟨_, _, hrun none, hfin none rfl rfl⟩
   | ret => exact ⟨_, _, hrun (some .ret), hfin (some .ret) rfl rfl⟩
   | exit j => exact ⟨_, _, hrun (some (.exit j)), hfin (some (.exit j)) rfl rfl⟩
theorem PF {rec : Rec} (hrec : mH E.P rec) {o : Oper} {tm : List aA} {a : Act} (h : (execOp E rec tm o.op).run s = .ok v s') (ho : bU s') (hr : Rel E.P ρ m s.heap.get w) (hf : eX ρ s s') (ht : RL ρ m tm a.tmps)
  {ro : Option Nat} {n : Nat} {next : Act → World → Prop} {Q : Exit → Act → World → Prop} (hk : ∀ x w' ρ', eW E.P ρ m s w ρ' m s' w' → R ρ' m v x → next (a.put o.dst x) w') : o.wpIn (Fw ro) n E.P a w next Q := by
 refine ⟨fun _ _ => trivial, ?_⟩
 have hsem : o.semAt (Fw ro).round a.eval = Go.execOp a.eval o := by
  refine Oper.semAt_eq _ _ _ (fun c hc => ?_)
  rw [hc] at h
  exact (aD h).elim
 rw [hsem]
 by_cases hcall : ∃ c f, o.op = .call c ∧ c.callee = .value f
 ·obtain ⟨c, f, hoc, hcf⟩ := hcall
  obtain ⟨dst, op, type, pos, after, guard⟩ := o
  simp only at hoc
  subst hoc
  obtain ⟨callee, cargs, ctys⟩ := c
  simp only at hcf
  subst hcf
  have h : (nF E rec (opd tm f) (eN tm cargs.toList)).run s = .ok v s' := h
  have hfv := cA ht f
  have hav := uK ht cargs
  unfold nF at h
  split at h
  ·rename_i g first cap hfe
   rw [hfe] at hfv
   cases hvf : a.eval f with
   | func g' first' cap' =>
    rw [hvf] at hfv
    cases hfv with
    | fn _ _ _ _ _ _ hg hxl hyl hxa hya =>
    split at h
    ·rename_i gf
     cases hg
     have hargs : RL ρ m (first ++ eN tm cargs.toList ++ cap) (first' ++ cargs.map a.eval ++ cap') := (RL.append ⟨hxl, hxa⟩ hav).append ⟨hyl, hya⟩
     have := xV hrec gf _ s v s' h ho ρ m w _ hr hf hargs
     have hrun : (Go.execOp a.eval { dst, op := .call { callee := .value f, args := cargs, argTypes := ctys }, type, pos, after, guard }).run E.P w = (callFunc gf (first' ++ cargs.map a.eval ++ cap')).run E.P w := by
      simp only [Go.execOp, resolve, hvf, Deferred.ofValue, Sem.run_bind, Sem.run_pure, Result.andThen_ok, invoke]
     rw [hrun]
     rcases this with ⟨he, hc⟩ | ⟨x, w', he, ρ', hp, hx⟩
     ·rw [he]
      refine ⟨Fw.depth _, Fw.NT (hc.mono (fun e w' hh => ?_))⟩
      obtain ⟨x, rfl, ρ', hp, hx⟩ := hh
      exact hk x w' ρ' hp hx
     ·rw [he]
      exact hk x w' ρ' hp hx
    ·rename_i id
     split at h
     ·cases hg with
      | yield _ r hρ =>
      have hf0 : first' = #[] := Array.eq_empty_of_size_eq_zero (by rw [← hxl]; rfl)
      subst hf0
      obtain ⟨f2, tmps, assign, body, k1, k2⟩ := zS hrec h ho hr hf hav hρ ro (n - 1)
      have hrun : (Go.execOp a.eval { dst, op := .call { callee := .value f, args := cargs, argTypes := ctys }, type, pos, after, guard }).run E.P w = (Instr.yield r.b (cargs.map a.eval)).run E.P w := by
       simp only [Go.execOp, resolve, hvf, Deferred.ofValue, Sem.run_bind, Sem.run_pure, Result.andThen_ok, invoke, Array.empty_append]
      rw [hrun, k1]
      refine ⟨Fw.depth _, k2.mono (fun e w' hh => ?_)⟩
      obtain ⟨x, rfl, ρ', hp, hx⟩ := hh
      exact hk x w' ρ' hp hx
     ·exact (aD h).elim
    ·exact (aD h).elim
   | _ => rw [hvf] at hfv; cases hfv
  ·exact (aD h).elim
 ·obtain ⟨x, w', ρ', h1, h2, h3⟩ := D4 h ho hr hf ht (fun c f hc hf => hcall ⟨c, f, hc, hf⟩)
  rcases h1 with h1 | ⟨h1, rfl⟩
  ·rw [h1]; exact hk x w' ρ' h2 h3
  ·rw [h1]; exact hk _ w' ρ' h2 h3
theorem yO {rec : Rec} (hrec : mH E.P rec) {ops : Array Oper} {o : Oper} {tm : List aA} {a : Act} (h : (opV E rec ops.toList o tm).run s = .ok v s') (ho : bU s') (hr : Rel E.P ρ m s.heap.get w) (hf : eX ρ s s') (ht : RL ρ m tm a.tmps)
  {ro : Option Nat} {n : Nat} {next : Act → World → Prop} {Q : Exit → Act → World → Prop}
  (hk : ∀ x w' ρ', eW E.P ρ m s w ρ' m s' w' → R ρ' m v x → next (a.put o.dst x) w') :
  if Region.wanted o (yielded ops a.tmps) then o.wpIn (Fw ro) n E.P a w next Q else (∀ f, o.about E.P w a.eval = some f → (Fw ro).fn f) ∧ next (a.put o.dst Go.undef) w := by
 obtain ⟨b, s1, h1, h2, ho1, _, n1⟩ := M.aJ h ho
 obtain ⟨e1, hw⟩ := BX h1 ho1 ht
 cases b with
 | true =>
  rw [if_pos hw]
  exact PF hrec h2 ho (hr.bS e1) (hf.bS e1) ht (fun x w' ρ' hp hx => hk x w' ρ' (hp.after e1) hx)
 | false =>
  rw [if_neg (by rw [hw]; simp)]
  obtain ⟨rfl, rfl⟩ := aC h2
  exact ⟨fun _ _ => trivial, hk _ w ρ (.bS hr e1) kN⟩
theorem HV {rec : Rec} (hrec : mH E.P rec) {ops : Array Oper} {o : Oper} {tm tm' : List aA} {a : Act} (h : (FA E rec ops.toList o tm).run s = .ok tm' s') (ho : bU s') (hr : Rel E.P ρ m s.heap.get w) (hf : eX ρ s s') (ht : RL ρ m tm a.tmps)
  {ro : Option Nat} {n : Nat} {next : Act → World → Prop} {Q : Exit → Act → World → Prop}
  (hk : ∀ x v w' ρ', eW E.P ρ m s w ρ' m s' w' → tm' = cE tm o.dst v → R ρ' m v x → RL ρ' m tm' (a.put o.dst x).tmps → next (a.put o.dst x) w') :
  if Region.wanted o (yielded ops a.tmps) then o.wpIn (Fw ro) n E.P a w next Q else (∀ f, o.about E.P w a.eval = some f → (Fw ro).fn f) ∧ next (a.put o.dst Go.undef) w := by
 obtain ⟨v, s1, h1, h2⟩ := M.aK h
 obtain ⟨rfl, rfl⟩ := aC h2
 exact yO hrec h1 ho hr hf ht (fun x w' ρ' hp hx => hk x v w' ρ' hp rfl hx (tI (ht.mono hp.ren hp.mle) o.dst hx))
theorem Act.pZ (a : Act) (d : Option Tmp) (x : Value) : (a.put d x).defers = a.defers := by cases d <;> rfl
theorem B5 {rec : Rec} (hrec : mH E.P rec) {ops : Array Oper} {ro : Option Nat} {n : Nat} {Q : Exit → Act → World → Prop} : ∀ (l : List Oper) {tm tm' : List aA} {s : St} {ρ : Ren} {w : World} {a : Act}, (jY E rec ops.toList l tm).run s = .ok tm' s' → bU s' →
  Rel E.P ρ m s.heap.get w → eX ρ s s' → RL ρ m tm a.tmps → (∀ a' w' ρ', eW E.P ρ m s w ρ' m s' w' → RL ρ' m tm' a'.tmps → a'.defers = a.defers → Q .normal a' w') → wpListIn (Fw ro) n E.P ops Q l a w := by
 intro l
 induction l with
 | nil =>
  intro tm tm' s ρ w a h ho hr hf ht hk
  obtain ⟨rfl, rfl⟩ := aC h
  exact hk a w ρ (.bS hr (.refl _)) ht rfl
 | cons o l ih =>
  intro tm tm' s ρ w a h ho hr hf ht hk
  obtain ⟨tm1, s1, h1, h2, ho1, _, n1⟩ := M.aJ h ho
  refine HV hrec h1 ho1 hr (hf.fst n1) ht (fun x v w' ρ' hp _ hx ht' => ?_)
  exact ih h2 ho hp.rel (hf.snd hp) ht' (fun a' w'' ρ'' hp2 ht2 hd => hk a' w'' ρ'' (hp.trans hp2) ht2 (by rw [hd, Act.pZ]))
end
end Go.Am
set_option linter.unusedSimpArgs false
set_option linter.unusedVariables false
namespace Go.Am
open Go
variable {E : Env}
section
variable {ρ : Ren} {m : Mem} {s s' : St} {w : World} {v : aA}
theorem lT.A0 {P : Program} {o : Option Nat} {a : Act} {e : gH} {e' : Exit} {tm : List aA} (hr : Rel P ρ m s.heap.get w) (es : fS s s') (ht : RL ρ m tm a.tmps) (hx : RX e e') : lT P ρ m s w o a e tm s' e' a w ρ [] where
 post := by rw [Mem.gK]; exact .bS hr es
 tmps := by rw [Mem.gK]; exact ht
 ex := hx
 defers := rfl
 uP := .nil m
 inRound := fun _ => rfl
theorem lT.trans {P : Program} {o : Option Nat} {a a1 a2 : Act} {e : gH} {e2 : gH} {tm1 tm2 : List aA} {s1 s2 : St} {e1 : Exit} {e2' : Exit} {w1 w2 : World} {ρ1 ρ2 : Ren} {D D' : List Nat}
  (h : lT P ρ m s w o a e tm1 s1 e1 a1 w1 ρ1 D) (h' : lT P ρ1 (m.with D) s1 w1 o a1 e2 tm2 s2 e2' a2 w2 ρ2 D') : lT P ρ m s w o a e2 tm2 s2 e2' a2 w2 ρ2 (D' ++ D) where
 post := by
  have := h'.post
  rw [Mem.wU] at this
  exact h.post.trans this
 tmps := by rw [← Mem.wU]; exact h'.tmps
 ex := h'.ex
 defers := by rw [h'.defers, h.defers]; simp
 uP := h.uP.append h'.uP
 inRound := fun ho => by rw [h.inRound ho, h'.inRound ho]; rfl
theorem lT.exit {P : Program} {o : Option Nat} {a a1 : Act} {e e2 : gH} {tm1 : List aA} {s1 : St} {e1 e2' : Exit} {w1 : World} {ρ1 : Ren} {D : List Nat}
  (h : lT P ρ m s w o a e tm1 s1 e1 a1 w1 ρ1 D) (hx : RX e2 e2') : lT P ρ m s w o a e2 tm1 s1 e2' a1 w1 ρ1 D := ⟨h.post, h.tmps, hx, h.defers, h.uP, h.inRound⟩
theorem lT.after {P : Program} {o : Option Nat} {a a1 : Act} {e : gH} {tm1 : List aA} {s0 s1 : St} {e1 : Exit} {w1 : World} {ρ1 : Ren} {D : List Nat}
  (h : lT P ρ m s w o a e tm1 s1 e1 a1 w1 ρ1 D) (es : fS s0 s) : lT P ρ m s0 w o a e tm1 s1 e1 a1 w1 ρ1 D := ⟨h.post.after es, h.tmps, h.ex, h.defers, h.uP, h.inRound⟩
theorem LA {rec : Rec} (hrec : mH E.P rec) {fn : FuncId} {rnd : Option Nat} {x y : Code} : rT E.P rnd (.seq x y) (step E rec fn rnd (.seq x y)) := by
 intro tm e tm' s s' h ho ρ m w a o n Q hr hf ht hn hQ
 obtain ⟨⟨e1, tm1⟩, s1, h1, h2, ho1, n1, n1'⟩ := M.aJ h ho
 refine wpIn_seq (hrec fn rnd x _ _ _ s s1 h1 ho1 ρ m w a o n _ hr (hf.fst n1') ht hn (fun e' a' w' ρ' D he => ?_))
 have hex := he.ex
 cases e1 with
 | normal =>
  cases hex
  refine hrec fn rnd y _ _ _ s1 s' h2 ho ρ' (m.with D) w' a' o n Q he.post.rel (hf.snd he.post) he.tmps (hn.mono he.post.ren) (fun e2 a2 w2 ρ2 D2 he2 => ?_)
  exact hQ _ _ _ _ _ (he.trans he2)
 | ret =>
  cases hex
  obtain ⟨he1, rfl⟩ := aC h2
  injection he1 with q1 q2
  subst q1; subst q2
  exact hQ _ _ _ _ _ he
 | exit j =>
  cases hex
  obtain ⟨he1, rfl⟩ := aC h2
  injection he1 with q1 q2
  subst q1; subst q2
  exact hQ _ _ _ _ _ he
theorem JL {rec : Rec} (hrec : mH E.P rec) {fn : FuncId} {rnd : Option Nat} {c : Operand} {x y : Code} : rT E.P rnd (.cond c x y) (step E rec fn rnd (.cond c x y)) := by
 intro tm e tm' s s' h ho ρ m w a o n Q hr hf ht hn hQ
 obtain ⟨t, s1, h1, h2, ho1, n1, n1'⟩ := M.aJ h ho
 obtain ⟨hb, e1⟩ := xZ h1 ho1
 have hcv : a.eval c = .bool t := by
  have := cA ht c
  rcases hb with hb | hb
  ·rw [hb] at this; exact this.bool_inv
  ·rw [hb] at this; exact this.oM
 refine wpIn_cond hcv ?_
 cases t with
 | true => exact hrec fn rnd x _ _ _ s1 s' h2 ho ρ m w a o n Q (hr.bS e1) (hf.bS e1) ht hn (fun e2 a2 w2 ρ2 D2 he2 => hQ _ _ _ _ _ (he2.after e1))
 | false => exact hrec fn rnd y _ _ _ s1 s' h2 ho ρ m w a o n Q (hr.bS e1) (hf.bS e1) ht hn (fun e2 a2 w2 ρ2 D2 he2 => hQ _ _ _ _ _ (he2.after e1))
theorem G2 {rec : Rec} (hrec : mH E.P rec) {fn : FuncId} {rnd : Option Nat} {id : Nat} {c : Code} : rT E.P rnd (.block id c) (step E rec fn rnd (.block id c)) := by
 intro tm e tm' s s' h ho ρ m w a o n Q hr hf ht hn hQ
 simp only [step] at h
 cases hk : jZ E.qK fn id (.block id c) with
 | some act =>
  rw [hk] at h
  exact rP hk rnd tm e tm' s s' h ho ρ m w a o n Q hr hf ht hn hQ
 | none =>
 rw [hk] at h
 obtain ⟨⟨e1, tm1⟩, s1, h1, h2, ho1, n1, n1'⟩ := M.aJ h ho
 refine wpIn_block (hrec fn rnd c _ _ _ s s1 h1 ho1 ρ m w a o n _ hr (hf.fst n1') ht hn (fun e' a' w' ρ' D he => ?_))
 have hex := he.ex
 cases e1 with
 | normal =>
  cases hex
  obtain ⟨he1, rfl⟩ := aC h2
  injection he1 with q1 q2
  subst q1; subst q2
  exact hQ _ _ _ _ _ he
 | ret =>
  cases hex
  obtain ⟨he1, rfl⟩ := aC h2
  injection he1 with q1 q2
  subst q1; subst q2
  exact hQ _ _ _ _ _ he
 | exit j =>
  cases hex
  simp only at h2
  simp only [Exit.inBlock]
  split at h2
  ·rename_i hb
   rw [if_pos (Nat.eq_of_beq_eq_true hb)]
   obtain ⟨he1, rfl⟩ := aC h2
   injection he1 with q1 q2
   subst q1; subst q2
   exact hQ _ _ _ _ _ (he.exit .normal)
  ·rename_i hb
   rw [if_neg (Nat.ne_of_beq_eq_false hb)]
   obtain ⟨he1, rfl⟩ := aC h2
   injection he1 with q1 q2
   subst q1; subst q2
   exact hQ _ _ _ _ _ he
theorem ET {rec : Rec} (hrec : mH E.P rec) {fn : FuncId} {rnd : Option Nat} {c : Code} : rT E.P rnd (.scope c) (step E rec fn rnd (.scope c)) := by
 intro tm e tm' s s' h ho ρ m w a o n Q hr hf ht hn hQ
 refine pG (hrec fn rnd c _ _ _ s s' h ho ρ m w a o n _ hr hf ht hn (fun e' a' w' ρ' D he => ?_))
 have hex := he.ex
 cases hex <;> exact hQ _ _ _ _ _ he
theorem AZ {ρ : Ren} {m : Mem} : ∀ (k : List Bool) (tm : List aA), (aN k tm).length = tm.length ∧ ∀ (i : Nat) v, (aN k tm)[i]? = some v → v = .aB ∨ tm[i]? = some v := by
 intro k
 induction k with
 | nil => intro tm; exact ⟨rfl, fun i v h => .inr h⟩
 | cons b k ih =>
  intro tm
  cases tm with
  | nil => exact ⟨rfl, fun i v h => .inr h⟩
  | cons a tm =>
   obtain ⟨h1, h2⟩ := ih tm
   refine ⟨by simp [aN, h1], fun i v h => ?_⟩
   cases i with
   | zero =>
    simp only [aN, List.getElem?_cons_zero] at h ⊢
    injection h with h
    cases b with
    | true => exact .inr (by rw [← h])
    | false => exact .inl h.symm
   | succ i =>
    simp only [aN, List.getElem?_cons_succ] at h ⊢
    exact h2 i v h
theorem uX {ρ : Ren} {m : Mem} {fn : FuncId} {tm : List aA} {c : Array Value} (h : RL ρ m tm c) : RL ρ m (bQ E fn tm) c := by
 unfold bQ
 split
 ·exact h
 ·rename_i k _
  obtain ⟨h1, h2⟩ := AZ (ρ := ρ) (m := m) k tm
  refine ⟨by rw [h1]; exact h.len, fun i v x hv hx => ?_⟩
  rcases h2 i v hv with rfl | hv
  ·exact .aB x
  ·exact h.at_ i v x hv hx
theorem C4 {rec : Rec} (hrec : mH E.P rec) {fn : FuncId} {rnd : Option Nat} {id : Nat} {ops : Array Oper} : rT E.P rnd (.region id ops false) (step E rec fn rnd (.region id ops false)) := by
 intro tm e tm' s s' h ho ρ m w a o n Q hr hf ht hn hQ
 obtain ⟨tm1, s1, h1, h2⟩ := M.aK h
 obtain ⟨he1, rfl⟩ := aC h2
 injection he1 with q1 q2
 subst q1; subst q2
 refine wpIn_region_list (B5 hrec ops.toList h1 ho hr hf ht (fun a' w' ρ' hp ht' hd => hQ _ _ _ ρ' [] ⟨?_, ?_, .normal, hd, .nil m, fun _ => rfl⟩))
 ·rw [Mem.gK]; exact hp
 ·rw [Mem.gK]; exact uX ht'
theorem I7 {F : Nat → Rec} {c : Code} {fn : FuncId} {rnd : Option Nat} {k : Nat} (hz : ∀ tm e tm' s s', (F 0 fn rnd (.loop c) tm).run s ≠ .ok (e, tm') s') (hs : ∀ j, j < k → F (j + 1) fn rnd (.loop c) = step E (F j) fn rnd (.loop c))
  (hF : ∀ j, j < k → rT E.P rnd c (F j fn rnd c)) : rT E.P rnd (.loop c) (F k fn rnd (.loop c)) := by
 intro tm e tm' s s' h ho ρ m w a o n Q hr hf ht hn hQ
 let I : Nat → Act → World → Prop := fun j a1 w1 => j ≤ k ∧ ∃ tm1 s1 ρ1 D1, (F j fn rnd (.loop c) tm1).run s1 = .ok (e, tm') s' ∧ lT E.P ρ m s w o a .normal tm1 s1 .normal a1 w1 ρ1 D1
 refine wE I (fun a1 w1 hI => ?_) (fun j a1 w1 hI => ?_) k ⟨Nat.le_refl _, tm, s, ρ, [], h, .A0 hr (.refl _) ht .normal⟩
 ·obtain ⟨_, tm1, s1, _, _, h1, _⟩ := hI
  exact hz _ _ _ _ _ h1
 ·obtain ⟨hj, tm1, s1, ρ1, D1, h1, he1⟩ := hI
  rw [hs j (by omega)] at h1
  obtain ⟨⟨e2, tm2⟩, s2, h2, h3, ho2, n2, n2'⟩ := M.aJ h1 ho
  refine hF j (by omega) _ _ _ s1 s2 h2 ho2 ρ1 (m.with D1) w1 a1 o n _ he1.post.rel ((hf.snd he1.post).fst n2') he1.tmps (hn.mono he1.post.ren) (fun e' a' w' ρ' D he => ?_)
  have hex := he.ex
  cases e2 with
  | normal =>
   cases hex
   exact ⟨by omega, tm2, s2, ρ', _, h3, he1.trans he⟩
  | ret =>
   cases hex
   obtain ⟨hq, rfl⟩ := aC h3
   injection hq with q1 q2
   subst q1; subst q2
   exact hQ _ _ _ _ _ (he1.trans he)
  | exit j =>
   cases hex
   obtain ⟨hq, rfl⟩ := aC h3
   injection hq with q1 q2
   subst q1; subst q2
   exact hQ _ _ _ _ _ (he1.trans he)
theorem EZ {id : Nat} {tm tm' : List aA} {e : gH} (h : (C5 id tm).run s = .ok (e, tm') s') (hr : Rel E.P ρ m s.heap.get w) {r : RB} (hρ : ρ id = some r) :
  tm' = tm ∧ ∃ jump w', (Instr.endLoop r.b).run E.P w = .ok jump w' ∧ jump = sG e ∧ eW E.P ρ m s w ρ m s' w' := by
 obtain ⟨b, s1, h1, h2⟩ := M.aK h
 obtain ⟨hg, e1⟩ := eC h1
 obtain ⟨l, rfl, h3⟩ := nY h2
 obtain ⟨L, q1, q2, q3, q4, q5, q6, q7⟩ := hr.loop hg hρ
 have hg1 : s1.heap.get id = some (.loop l) := by rw [e1.heap]; exact hg
 have main : l.state ≠ .busy → ((jK id (.loop { l with state := .exhausted })).bind fun _ => match l.pending with
   | none => M.pure (gH.normal, tm)
   | some c => match c with
    | .ret => M.pure (.ret, tm)
    | .exit j => M.pure (.exit j, tm)
    | _ => bJ "pending").run s1 = .ok (e, tm') s' → tm' = tm ∧ ∃ jump w', (Instr.endLoop r.b).run E.P w = .ok jump w' ∧ jump = sG e ∧ eW E.P ρ m s w ρ m s' w' := by
  intro hst h4
  obtain ⟨_, s2, h5, h6⟩ := M.aK h4
  obtain ⟨_, hn2, hset⟩ := nL h5
  have hp : eW E.P ρ m s1 w ρ m s2 (World.upd w r.b (.loop { L with state := .exhausted })) :=
   .upd (hr.bS e1) hg1 hρ (.loop r { l with state := .exhausted } _ rfl q3 q4 q5 q6 q7) hn2 hset
  have hp' := hp.after e1
  have hrun : (Instr.endLoop r.b).run E.P w = .ok L.pending (World.upd w r.b (.loop { L with state := .exhausted })) := by
   have hb : (L.state == .busy) = false := by rw [q2]; cases hs : l.state <;> first | rfl | exact absurd hs hst
   simp only [Instr.endLoop, Sem.run_bind, kA q1, Result.andThen_ok, hb, Bool.false_eq_true, if_false, gL q1 (fun _ _ _ h => by cases h), Sem.run_pure]
  generalize hw : World.upd w r.b (.loop { L with state := .exhausted }) = wx at hrun hp'
  rw [q3] at hrun
  cases hpd : l.pending with
  | none =>
   rw [hpd] at h6 hrun
   obtain ⟨hq, rfl⟩ := aC h6
   injection hq with a1 a2
   subst a1; subst a2
   exact ⟨rfl, _, _, hrun, rfl, hp'⟩
  | some c =>
   rw [hpd] at h6 hrun
   simp only at h6
   split at h6
   ·obtain ⟨hq, rfl⟩ := aC h6
    injection hq with a1 a2
    subst a1; subst a2
    exact ⟨rfl, _, _, hrun, rfl, hp'⟩
   ·obtain ⟨hq, rfl⟩ := aC h6
    injection hq with a1 a2
    subst a1; subst a2
    exact ⟨rfl, _, _, hrun, rfl, hp'⟩
   ·exact (aD h6).elim
 split at h3
 ·exact (aD h3).elim
 ·rename_i hst
  exact main (fun hh => hst hh) h3
theorem wK {rec : Rec} (hrec : mH E.P rec) {fn : FuncId} {rnd : Option Nat} {f : Operand} {ps : Array Tmp} {assign body : Code} : rT E.P rnd (.rangeFunc f ps assign body) (step E rec fn rnd (.rangeFunc f ps assign body)) := by
 intro tm e tm' s s' h ho ρ m w a o n Q hr hf ht hn hQ
 have hfv := cA ht f
 simp only [step] at h
 split at h
 case h_2 => exact (aD h).elim
 rename_i g first cap hfe
 rw [hfe] at hfv
 split at h
 case h_2 => exact (aD h).elim
 rename_i gf
 split at h
 case h_2 => exact (aD h).elim
 rename_i hb
 have hfok := (E.funcs.find gf).ok
 rw [Nat.eq_of_beq_eq_true hb] at hfok
 obtain ⟨_, s1, h1, h2, ho1, n1, n1'⟩ := M.aJ h ho
 obtain ⟨id, s2, h3, h4, ho2, n2, n2'⟩ := M.aJ h2 ho
 obtain ⟨rv, s3, h5, h6, ho3, n3, n3'⟩ := M.aJ h4 ho
 cases hvf : a.eval f with
 | func g' first' cap' =>
  rw [hvf] at hfv
  cases hfv with
  | fn _ _ _ _ _ _ hg hxl hyl hxa hya =>
  cases hg
  have enter : fS s s1 ∧ ∃ D w0, pQ m D ∧ (o ≠ none → D = []) ∧ Fr w w0 ∧ Rel E.P ρ (m.with D) s1.heap.get w0 ∧
    ∀ fn' : FuncId, ∃ L, (Instr.enterLoop fn' a.tmps ps assign body o).run E.P w = .ok (w0.heap.size, D.map mk) (w0.alloc (.loop L)) ∧ L.state = .ready ∧ L.pending = none ∧ L.tmps = a.tmps ∧ L.params = ps ∧ L.assign = assign ∧ L.body = body := by
   cases hn with
   | none =>
    obtain ⟨_, rfl⟩ := aC h1
    refine ⟨.refl _, [w.heap.size], w.alloc (.deferred (some [])), ⟨by simp, fun r hr' => ?_⟩, fun h => absurd rfl h, .alloc _ _, ?_, fun fn' => ?_⟩
    ·have : r = w.heap.size := by simpa using hr'
     subst this
     cases hm : m w.heap.size with
     | none => rfl
     | some q => have := fJ (hr.mem _ _ hm); omega
    ·have hm0 : m w.heap.size = none := by
      cases hm : m w.heap.size with
      | none => rfl
      | some q => have := fJ (hr.mem _ _ hm); omega
     refine ⟨fun i b hb => ?_, hr.inj, fun b ob hb => ?_⟩
     ·obtain ⟨rb, ob, q1, q2, q3, q4⟩ := hr.dJ i b hb
      have hlt := fJ q2
      refine ⟨rb, ob, q1, ?_, q3.mono (.refl ρ) (Mem.E2 (by simpa using hm0)), ?_⟩
      ·rw [kQ, if_neg (by omega)]; exact q2
      ·unfold Mem.with; rw [if_neg (by simp; omega)]; exact q4
     ·unfold Mem.with at hb
      by_cases hd : b = w.heap.size
      ·subst hd
       rw [if_pos (by simp)] at hb
       injection hb with hb
       subst hb
       rw [kQ, if_pos rfl]
      ·rw [if_neg (by simpa using hd)] at hb
       rw [kQ, if_neg hd]
       exact hr.mem b ob hb
    ·refine ⟨{ state := .ready, pending := none, fn := fn', tmps := a.tmps, params := ps, assign, body, defers := w.heap.size }, ?_, rfl, rfl, rfl, rfl, rfl, rfl⟩
     ·simp only [Instr.enterLoop, Sem.run_bind, run_newObj_alloc, Result.andThen_ok, Sem.run_pure]
      rfl
   | some id0 r hid =>
    obtain ⟨b, s0, k1, k2⟩ := M.aK h1
    obtain ⟨hg, e1⟩ := eC k1
    obtain ⟨l, rfl, k3⟩ := nY k2
    obtain ⟨_, rfl⟩ := aC k3
    obtain ⟨L, q1, _⟩ := hr.loop hg hid
    refine ⟨e1, [], w, .nil m, fun _ => rfl, .refl w, by rw [Mem.gK]; exact hr.bS e1, fun fn' => ⟨{ state := .ready, pending := none, fn := fn', tmps := a.tmps, params := ps, assign, body, defers := L.defers }, ?_, rfl, rfl, rfl, rfl, rfl, rfl⟩⟩
    ·simp only [Instr.enterLoop, Sem.run_bind, kA q1, run_newObj_alloc, Result.andThen_ok, Sem.run_pure]
     rfl
  obtain ⟨e1, D, w0, hD, hD0, hfr, hr0, henter⟩ := enter
  have hmle : MLe m (m.with D) := Mem.E2 hD.none
  refine wpIn_rangeFunc (fun fn' _ => ?_)
  obtain ⟨L, hrun, l1, l2, l3, l4, l5, l6⟩ := henter fn'
  have hf1 := hf.bS e1
  have hf12 : eX ρ s1 s2 := hf1.fst (by omega)
  obtain ⟨_, hp⟩ := l7 h3 hr0 hf12 (.loop L) 0 0 (fun ρ' hle => .loop _ _ L l1 l2 (by rw [l3]; exact ht.mono hle hmle) (by rw [l4]) l5 l6)
  have hid : (ρ.put id ⟨w0.heap.size, 0, 0⟩) id = some ⟨w0.heap.size, 0, 0⟩ := by simp [Ren.put]
  have hargs : RL (ρ.put id ⟨w0.heap.size, 0, 0⟩) (m.with D) (first ++ [aA.fn (.yield id) [] []] ++ cap) (first' ++ #[.func (.yield w0.heap.size) #[] #[]] ++ cap') := by
   have hy : RL (ρ.put id ⟨w0.heap.size, 0, 0⟩) (m.with D) [aA.fn (.yield id) [] []] #[.func (.yield w0.heap.size) #[] #[]] := by
    refine ⟨rfl, fun i v x hv hx => ?_⟩
    cases i with
    | zero =>
     simp at hv hx
     subst hv; subst hx
     exact .fn _ _ _ _ _ _ (.yield id ⟨w0.heap.size, 0, 0⟩ hid) rfl rfl (fun i v u hv => by simp at hv) (fun i v u hv => by simp at hv)
    | succ i => simp at hv
   exact ((RL.mono hp.ren hmle ⟨hxl, hxa⟩).append hy).append (RL.mono hp.ren hmle ⟨hyl, hya⟩)
  have hf2 : eX (ρ.put id ⟨w0.heap.size, 0, 0⟩) s2 s' := hf1.snd hp
  have hcall := xV hrec gf _ s2 rv s3 h5 ho3 _ _ _ _ hp.rel (hf2.fst n3') hargs
  refine ⟨w0.heap.size, D.map mk, w0.alloc (.loop L), { target := .fn (.func gf) cap', args := first' ++ #[.func (.yield w0.heap.size) #[] #[]] }, w0.alloc (.loop L), gf, first' ++ #[.func (.yield w0.heap.size) #[] #[]] ++ cap', w0.alloc (.loop L), hrun, ?_, fun _ _ => trivial, ?_, Fw.depth _, ?_⟩
  ·have : (#[Operand.const (.func (.yield w0.heap.size) #[] #[])] : Array Operand).map a.eval = #[.func (.yield w0.heap.size) #[] #[]] := by simp [Act.eval]
   simp only [resolve, rangeCall, hvf, Deferred.ofValue, this, Sem.run_pure]
  ·simp only [invoke]; exact hfok.call _ _
  ·rcases hcall with ⟨_, hc⟩ | ⟨x, w', he, _⟩
   ·refine Fw.NT (hc.mono (fun e' w' hh => ?_))
    obtain ⟨x, rfl, ρ', hp3, _⟩ := hh
    have hp03 := hp.trans hp3
    obtain ⟨rfl, jump, w4, k1, k2, k3⟩ := EZ h6 hp3.rel (hp3.ren _ _ hid)
    have hfin : ∀ e', RX e e' → Q e' { a with defers := D.map mk ++ a.defers } w4 := fun e' hx => by
     have hpa := (hp03.trans k3).after e1
     refine hQ e' { a with defers := D.map mk ++ a.defers } w4 ρ' D ⟨⟨hpa.ren, hpa.new, fun b ob hb => ?_, hpa.rel, hfr.trans hpa.fr, hpa.next⟩, ht.mono hpa.ren hmle, hx, rfl, hD, hD0⟩
     have : b ∉ D := fun hd => by rw [hD.none b hd] at hb; cases hb
     unfold Mem.with; rw [if_neg this]; exact hb
    refine ⟨jump, w4, k1, ?_⟩
    subst k2
    cases e with
    | normal => exact hfin _ .normal
    | ret => exact wpIn_ret (hfin _ .ret)
    | exit j => exact wpIn_exit (hfin _ (.exit j))
   ·rw [hfok.call] at he
    injection he with he
    cases he
 | _ => rw [hvf] at hfv; cases hfv
end
end Go.Am
set_option linter.unusedSimpArgs false
set_option linter.unusedVariables false
namespace Go.Am
open Go
section
variable {α : Type} (dN : Nat → α) (T : Nat → Nat → Prop) (V : Nat → Nat → α)
open Classical in
noncomputable def gR (S : Nat → Prop) : Nat → Nat → α
 | 0, x => dN x
 | k + 1, x => if S k ∧ T k x then V k x else gR S k x
variable {dN T V}
theorem mO {S : Nat → Prop} {n i : Nat} (hin : i ≤ n) {x : Nat} (h1 : ∀ j, j < i → T j x → S j) (h2 : ∀ k, i ≤ k → k < n → S k → ¬ T k x) : gR dN T V S n x = gR dN T V (fun _ => True) i x := by
 have tail : ∀ k, i ≤ k → k ≤ n → gR dN T V S k x = gR dN T V S i x := by
  intro k
  induction k with
  | zero =>
   intro h _; have : i = 0 := by omega
   subst this; rfl
  | succ k ih =>
   intro h hk
   by_cases e : i = k + 1
   ·subst e; rfl
   ·rw [← ih (by omega) (by omega)]
    simp only [gR]
    rw [if_neg (fun hh => h2 k (by omega) (by omega) hh.1 hh.2)]
 rw [tail n hin (Nat.le_refl _)]
 clear tail h2 hin
 induction i with
 | zero => rfl
 | succ i ih =>
  simp only [gR]
  by_cases ht : T i x
  ·rw [if_pos ⟨h1 i (by omega) ht, ht⟩, if_pos ⟨trivial, ht⟩]
  ·rw [if_neg (fun h => ht h.2), if_neg (fun h => ht h.2)]
   exact ih (fun j hj => h1 j (by omega))
open Classical in
theorem AN {S : Nat → Prop} {i : Nat} (hi : ¬ S i) {x : Nat} : ∀ {n : Nat}, i < n → (T i x → ∀ k, i < k → k < n → S k → ¬ T k x) →
  gR dN T V (fun k => S k ∨ k = i) n x = if T i x then V i x else gR dN T V S n x := by
 have low : ∀ k, k ≤ i → gR dN T V (fun k => S k ∨ k = i) k x = gR dN T V S k x := by
  intro k
  induction k with
  | zero => intro _; rfl
  | succ k ih =>
   intro hk
   have : (S k ∨ k = i) ↔ S k := ⟨fun h => h.resolve_right (by omega), .inl⟩
   simp only [gR, this, ih (by omega)]
 intro n
 induction n with
 | zero => intro h; omega
 | succ n ih =>
  intro hn h
  by_cases e : n = i
  ·subst e
   simp only [gR, or_true, true_and, low n (Nat.le_refl _)]
   by_cases ht : T n x
   ·rw [if_pos ht, if_pos ht]
   ·rw [if_neg ht, if_neg ht, if_neg (fun h => hi h.1)]
  ·have hlt : i < n := by omega
   have ih' := ih hlt (fun ht k hk hkn => h ht k hk (by omega))
   simp only [gR]
   have : (S n ∨ n = i) ↔ S n := ⟨fun h => h.resolve_right e, .inl⟩
   simp only [this, ih']
   by_cases hs : S n ∧ T n x
   ·have hnt : ¬ T i x := fun ht => h ht n hlt (by omega) hs.1 hs.2
    rw [if_pos hs, if_neg hnt, if_pos hs]
   ·rw [if_neg hs, if_neg hs]
end
theorem iK {x y : List Nat} (h : iW x y = false) {a : Nat} (ha : a ∈ x) (hb : a ∈ y) : False := by
 have : iW x y = true := List.any_eq_true.2 ⟨a, ha, List.any_eq_true.2 ⟨a, hb, Nat.beq_refl a⟩⟩
 rw [this] at h; cases h
theorem mQ {x : List Nat} {f : gA} (h : kI x f = false) {a : Nat} (ha : a ∈ x) (h1 : f.lo ≤ a) (h2 : a < f.hi) : False := by
 unfold kI at h
 split at h
 ·rename_i e
  have := Nat.eq_of_beq_eq_true e
  omega
 ·have : (x.any (within f.lo f.hi)) = true := List.any_eq_true.2 ⟨a, ha, by
   have h2' : a.blt f.hi = true := Nat.ble_eq_true_of_le h2
   simp [within, Nat.ble_eq_true_of_le h1, h2']⟩
  rw [this] at h; cases h
theorem sX {a b : gA} (h : fK a b = false) : iW a.w b.r = false ∧ iW a.w b.w = false ∧ iW a.r b.w = false ∧ kI a.r b = false ∧ kI a.w b = false ∧ kI b.r a = false ∧ kI b.w a = false := by
 simpa [fK] using h
theorem LU {lo hi x : Nat} (h : old lo hi x = false) : lo ≤ x ∧ x < hi := by
 simp only [old, Bool.or_eq_false_iff] at h
 refine ⟨?_, ?_⟩
 ·rcases Nat.lt_or_ge x lo with hl | hl
  ·have : x.blt lo = true := Nat.ble_eq_true_of_le hl
   rw [this] at h; cases h.1
  ·exact hl
 ·rcases Nat.lt_or_ge x hi with hl | hl
  ·exact hl
  ·have : hi.ble x = true := Nat.ble_eq_true_of_le hl
   rw [this] at h; cases h.2
theorem jW {l : List Nat} {lo hi x : Nat} (h : x ∈ l) : x ∈ l.filter (old lo hi) ∨ (lo ≤ x ∧ x < hi) := by
 cases e : old lo hi x with
 | true => exact .inl (List.mem_filter.2 ⟨h, e⟩)
 | false => exact .inr (LU e)
theorem WR {r1 w1 r2 w2 : List Nat} {j1 j2 lo1 hi1 lo2 hi2 : Nat} (h : fK ⟨j1, r1.filter (old lo1 hi1), w1.filter (old lo1 hi1), lo1, hi1⟩ ⟨j2, r2.filter (old lo2 hi2), w2.filter (old lo2 hi2), lo2, hi2⟩ = false) (hlo : hi1 ≤ lo2) {x : Nat} :
  ((x ∈ r1 ∨ x ∈ w1 ∨ (lo1 ≤ x ∧ x < hi1)) → (x ∈ w2 ∨ (lo2 ≤ x ∧ x < hi2)) → False) ∧ ((x ∈ w1 ∨ (lo1 ≤ x ∧ x < hi1)) → (x ∈ r2 ∨ x ∈ w2 ∨ (lo2 ≤ x ∧ x < hi2)) → False) := by
 obtain ⟨c1, c2, c3, c4, c5, c6, c7⟩ := sX h
 simp only at c1 c2 c3 c4 c5 c6 c7
 have n12 : (lo1 ≤ x ∧ x < hi1) → (lo2 ≤ x ∧ x < hi2) → False := fun a b => by omega
 have w1n2 : x ∈ w1 → (lo2 ≤ x ∧ x < hi2) → False := fun a b => by
  rcases jW (lo := lo1) (hi := hi1) a with a | a
  ·exact mQ c5 a b.1 b.2
  ·exact n12 a b
 have r1n2 : x ∈ r1 → (lo2 ≤ x ∧ x < hi2) → False := fun a b => by
  rcases jW (lo := lo1) (hi := hi1) a with a | a
  ·exact mQ c4 a b.1 b.2
  ·exact n12 a b
 have n1w2 : (lo1 ≤ x ∧ x < hi1) → x ∈ w2 → False := fun a b => by
  rcases jW (lo := lo2) (hi := hi2) b with b | b
  ·exact mQ c7 b a.1 a.2
  ·exact n12 a b
 have n1r2 : (lo1 ≤ x ∧ x < hi1) → x ∈ r2 → False := fun a b => by
  rcases jW (lo := lo2) (hi := hi2) b with b | b
  ·exact mQ c6 b a.1 a.2
  ·exact n12 a b
 have w1w2 : x ∈ w1 → x ∈ w2 → False := fun a b => by
  rcases jW (lo := lo1) (hi := hi1) a with a' | a'
  ·rcases jW (lo := lo2) (hi := hi2) b with b' | b'
   ·exact iK c2 a' b'
   ·exact w1n2 a b'
  ·exact n1w2 a' b
 have r1w2 : x ∈ r1 → x ∈ w2 → False := fun a b => by
  rcases jW (lo := lo1) (hi := hi1) a with a' | a'
  ·rcases jW (lo := lo2) (hi := hi2) b with b' | b'
   ·exact iK c3 a' b'
   ·exact r1n2 a b'
  ·exact n1w2 a' b
 have w1r2 : x ∈ w1 → x ∈ r2 → False := fun a b => by
  rcases jW (lo := lo1) (hi := hi1) a with a' | a'
  ·rcases jW (lo := lo2) (hi := hi2) b with b' | b'
   ·exact iK c1 a' b'
   ·exact w1n2 a b'
  ·exact n1r2 a' b
 refine ⟨fun a b => ?_, fun a b => ?_⟩
 ·rcases a with a | a | a <;> rcases b with b | b
  ·exact r1w2 a b
  ·exact r1n2 a b
  ·exact w1w2 a b
  ·exact w1n2 a b
  ·exact n1w2 a b
  ·exact n12 a b
 ·rcases a with a | a <;> rcases b with b | b | b
  ·exact w1r2 a b
  ·exact w1w2 a b
  ·exact w1n2 a b
  ·exact n1r2 a b
  ·exact n1w2 a b
  ·exact n12 a b
def Ok2 (bs : List Nat) (b a : gA) : Prop := fK a b = false ∨ (bs.getD b.j 0).testBit a.j = true
theorem pP {bs : List Nat} : ∀ {fs : List gA}, dX bs fs = true → fs.Pairwise (Ok2 bs)
 | [], _ => .nil
 | b :: l, h => by
  simp only [dX, Bool.and_eq_true, List.all_eq_true, Bool.or_eq_true] at h
  refine List.pairwise_cons.2 ⟨fun a ha => ?_, pP h.2⟩
  rcases h.1 a ha with h | h
  ·exact .inl (by simpa using h)
  ·exact .inr h
theorem E7 {bs : List Nat} {F : List gA} (h : dX bs F.reverse = true) {i k : Nat} {a b : gA} (hik : i < k) (ha : F[i]? = some a) (hb : F[k]? = some b) : Ok2 bs b a := by
 have hp := pP h
 rw [List.pairwise_reverse] at hp
 obtain ⟨hk, hbk⟩ := List.getElem?_eq_some_iff.1 hb
 obtain ⟨hi, hai⟩ := List.getElem?_eq_some_iff.1 ha
 have := List.pairwise_iff_getElem.1 hp i k hi hk hik
 rw [hai, hbk] at this
 exact this
theorem oN {acc : List Nat} {i : Nat} : ∀ {es : List Edge}, (nA acc es).testBit i = true → ∃ e ∈ es, Region.binds .any e = true ∧ (i = e.on ∨ (acc.getD e.on 0).testBit i = true)
 | [], h => by simp [nA] at h
 | e :: l, h => by
  unfold nA at h
  split at h
  ·rename_i hb
   rw [Nat.testBit_or, Nat.testBit_or, Bool.or_eq_true, Bool.or_eq_true] at h
   rcases h with h | h | h
   ·obtain ⟨e', h1, h2, h3⟩ := oN h
    exact ⟨e', List.mem_cons_of_mem _ h1, h2, h3⟩
   ·rw [Nat.testBit_two_pow] at h
    exact ⟨e, List.mem_cons_self, hb, .inl (of_decide_eq_true h).symm⟩
   ·exact ⟨e, List.mem_cons_self, hb, .inr h⟩
  ·obtain ⟨e', h1, h2, h3⟩ := oN h
   exact ⟨e', List.mem_cons_of_mem _ h1, h2, h3⟩
theorem zL : ∀ (l : List Oper) (acc : List Nat), (∃ tl, dU acc l = acc ++ tl) ∧ ∀ k o, l[k]? = some o → (dU acc l).getD (acc.length + k) 0 = nA ((dU acc l).take (acc.length + k)) o.after.toList := by
 intro l
 induction l with
 | nil => intro acc; exact ⟨⟨[], by simp [dU]⟩, fun k o h => by simp at h⟩
 | cons q l ih =>
  intro acc
  obtain ⟨⟨tl, h1⟩, h2⟩ := ih (acc ++ [nA acc q.after.toList])
  refine ⟨⟨nA acc q.after.toList :: tl, by simp only [dU, h1]; simp⟩, fun k o hk => ?_⟩
  cases k with
  | zero =>
   simp at hk
   subst hk
   simp only [dU, h1, Nat.add_zero, List.append_assoc]
   simp [List.getD_eq_getElem?_getD]
  | succ k =>
   have := h2 k o (by simpa using hk)
   simp only [List.length_append, List.length_singleton] at this
   simp only [dU]
   have e : acc.length + 1 + k = acc.length + (k + 1) := by omega
   rw [e] at this
   exact this
theorem qM : ∀ (l : List Oper) (j : Nat), rQ j l = true → ∀ k o, l[k]? = some o → ∀ e ∈ o.after, Region.binds .any e = true → e.on < j + k := by
 intro l
 induction l with
 | nil => intro j _ k o h; simp at h
 | cons q l ih =>
  intro j h k o hk e he hbe
  simp only [rQ, Bool.and_eq_true, List.all_eq_true] at h
  cases k with
  | zero =>
   simp at hk
   subst hk
   have := h.1 e (by simpa using he)
   rw [hbe] at this
   exact Nat.le_of_ble_eq_true this
  | succ k =>
   have := ih (j + 1) h.2 k o (by simpa using hk) e he hbe
   omega
theorem sW {l : List Oper} {S : Nat → Prop} (hb : rQ 0 l = true) (hc : ∀ k o, S k → l[k]? = some o → ∀ e ∈ o.after, Region.binds .any e = true → S e.on) :
  ∀ (k : Nat) (o : Oper), l[k]? = some o → (∀ e ∈ o.after, Region.binds .any e = true → S e.on) → ∀ i, ((dU [] l).getD k 0).testBit i = true → S i := by
 intro k
 induction k using Nat.strongRecOn with
 | _ k ih =>
  intro o ho hs i hi
  have h1 := (zL l []).2 k o ho
  simp only [List.length_nil, Nat.zero_add] at h1
  rw [h1] at hi
  obtain ⟨e, he, hbe, h⟩ := oN hi
  have he' : e ∈ o.after := by simpa using he
  have hse := hs e he' hbe
  have hlt := qM l 0 hb k o ho e he' hbe
  simp only [Nat.zero_add] at hlt
  rcases h with rfl | h
  ·exact hse
  ·have hlk := (List.getElem?_eq_some_iff.1 ho).1
   obtain ⟨oe, hoe⟩ : ∃ oe, l[e.on]? = some oe := ⟨_, List.getElem?_eq_getElem (by omega)⟩
   refine ih e.on hlt oe hoe (hc e.on oe hse hoe) i ?_
   rw [List.getD_eq_getElem?_getD] at h ⊢
   rw [List.getElem?_take_of_lt hlt] at h
   exact h
variable {E : Env}
theorem uO {t : Nat} : ∀ {l : List Operand}, Operand.tmp t ∈ l → t ∈ sD l
 | x :: l, h => by
  rcases List.mem_cons.1 h with h | h
  ·subst h; simp [sD]
  ·have := uO h
   unfold sD
   split
   ·exact List.mem_cons_of_mem _ this
   ·exact this
theorem F8 {tm tm' : List aA} {x : Operand} (h : ∀ t, x = .tmp t → nth tm t undef = nth tm' t undef) : opd tm x = opd tm' x := by
 cases x with
 | tmp t => exact h t rfl
 | _ => rfl
theorem mN {tm tm' : List aA} : ∀ {l : List Operand}, (∀ x ∈ l, opd tm x = opd tm' x) → eN tm l = eN tm' l
 | [], _ => rfl
 | x :: l, h => by
  simp only [eN, h x List.mem_cons_self, mN (l := l) (fun y hy => h y (List.mem_cons_of_mem _ hy))]
theorem qA {tm tm' : List aA} : ∀ {l : List (Nat × Operand)}, (∀ x ∈ l.map (·.2), opd tm x = opd tm' x) → fM tm l = fM tm' l
 | [], _ => rfl
 | x :: l, h => by
  simp only [fM, h x.2 (by simp), qA (l := l) (fun y hy => h y (by simp at hy ⊢; exact .inr hy))]
theorem zC {rec : Rec} {tm tm' : List aA} {op : Op} (h : ∀ x ∈ op.operands, opd tm x = opd tm' x) : execOp E rec tm op = execOp E rec tm' op := by
 cases op <;> simp only [Op.operands] at h <;> simp only [execOp]
 case build t ps => rw [qA (fun x hx => h x (by simpa using hx))]
 case buildSlice t n ps => rw [qA (fun x hx => h x (by simpa using hx))]
 case makeFunc fn first captured =>
  rw [mN (l := first.toList) (fun x hx => h x (by simp at hx; simp [hx])), mN (l := captured.toList) (fun x hx => h x (by simp at hx; simp [hx]))]
 case slice t x lo hi mx =>
  have hx := h x (by simp)
  have hlo : opt tm lo = opt tm' lo := by cases lo with | none => rfl | some y => simp only [opt]; rw [h y (by simp)]
  have hhi : opt tm hi = opt tm' hi := by cases hi with | none => rfl | some y => simp only [opt]; rw [h y (by simp)]
  have hmx : opt tm mx = opt tm' mx := by cases mx with | none => rfl | some y => simp only [opt]; rw [h y (by simp)]
  rw [hx, hlo, hhi, hmx]
 case makeMap t r =>
  have hr : opt tm r = opt tm' r := by cases r with | none => rfl | some y => simp only [opt]; rw [h y (by simp)]
  rw [hr]
 case call c =>
  obtain ⟨callee, args, tys⟩ := c
  simp only [Call.operands] at h
  simp only [cN]
  have ha : eN tm args.toList = eN tm' args.toList := mN (fun x hx => h x (by simp at hx; simp [hx]))
  rw [ha]
  cases callee with
  | value f => simp only; rw [h f (by simp)]
  | _ => rfl
 all_goals first | rfl | (simp_all; done)
theorem F9 {rec : Rec} {ops : List Oper} {o : Oper} {tm tm' : List aA} (h : ∀ t ∈ rE ops o, nth tm t undef = nth tm' t undef) : opV E rec ops o tm = opV E rec ops o tm' := by
 have h1 : execOp E rec tm o.op = execOp E rec tm' o.op := zC (fun x hx => F8 (fun t ht => by
  subst ht
  exact h t (List.mem_append_left _ (uO (by simpa using hx)))))
 have h2 : wanted ops tm o.guard = wanted ops tm' o.guard := by
  unfold wanted
  cases hg : o.guard with
  | none => rfl
  | some p =>
   simp only
   cases hd : (ops[p.1]?).bind (·.dst) with
   | none => rfl
   | some d => simp only; rw [h d (by simp [rE, hg, hd])]
 unfold opV
 rw [h1, h2]
end Go.Am
set_option linter.unusedSimpArgs false
set_option linter.unusedVariables false
namespace Go.Am
open Go
variable {E : Env}
structure Ev where
 s : St
 v : aA
 s' : St
 r : List Nat
 w : List Nat
 o : List Bool
structure Tra (E : Env) (rec : Rec) (ops : List Oper) (j : Nat) (l : List Oper) (tm : List aA) (s : St) (tm' : List aA) (s' : St) (F : List gA) (ev : Nat → Ev) (hp : Nat → Tr) (nx : Nat → Nat) (tv : Nat → List aA) : Prop where
 h0 : hp 0 = s.heap
 hN : hp l.length = s'.heap
 n0 : nx 0 = s.next
 nN : nx l.length = s'.next
 t0 : tv 0 = tm
 tN : tv l.length = tm'
 jP : F.length = l.length
 heap : ∀ k, k < l.length → (ev k).s.heap = hp k ∧ (ev k).s'.heap = hp (k + 1)
 next : ∀ k, k < l.length → (ev k).s.next = nx k ∧ (ev k).s'.next = nx (k + 1)
 tmps : ∀ k o, l[k]? = some o → tv (k + 1) = cE (tv k) o.dst (ev k).v
 did : ∀ k o, l[k]? = some o → (opV E rec ops o (tv k)).run (ev k).s = .ok (ev k).v (ev k).s' ∧ Did (opV E rec ops o (tv k)).run (ev k).s (ev k).v (ev k).s' (ev k).r (ev k).w (ev k).o
 ok : ∀ k, k < l.length → (ev k).o.all id = true
 RU : ∀ k, k < l.length → F[k]? = some ⟨j + k, (ev k).r.filter (old (nx k) (nx (k + 1))), (ev k).w.filter (old (nx k) (nx (k + 1))), nx k, nx (k + 1)⟩
def shift {α : Type} (a : α) (f : Nat → α) : Nat → α
 | 0 => a
 | k + 1 => f k
theorem zD {rec : Rec} {ops : List Oper} : ∀ (l : List Oper) (j : Nat) (tm : List aA) (fs : List gA) (s : St) (tm' : List aA) (fs' : List gA) (s' : St), (iX E rec ops j l tm fs).run s = .ok (tm', fs') s' → bU s' →
  ∃ F ev hp nx tv, fs' = F.reverse ++ fs ∧ Tra E rec ops j l tm s tm' s' F ev hp nx tv := by
 intro l
 induction l with
 | nil =>
  intro j tm fs s tm' fs' s' h ho
  obtain ⟨he, rfl⟩ := aC h
  injection he with q1 q2
  subst q1; subst q2
  exact ⟨[], fun _ => ⟨s', undef, s', [], [], []⟩, fun _ => s'.heap, fun _ => s'.next, fun _ => tm', by simp, ⟨rfl, rfl, rfl, rfl, rfl, rfl, rfl, fun k hk => by simp at hk, fun k hk => by simp at hk, fun k o hk => by simp at hk, fun k o hk => by simp at hk,
   fun k hk => by simp at hk, fun k hk => by simp at hk⟩⟩
 | cons o l ih =>
  intro j tm fs s tm' fs' s' h ho
  obtain ⟨⟨v, f⟩, s1, h1, h2, ho1, _, _⟩ := M.aJ h ho
  obtain ⟨F, ev, hp, nx, tv, e1, t⟩ := ih (j + 1) _ _ s1 tm' fs' s' h2 ho
  have h1 : lD j (opV E rec ops o tm) s = .ok (v, f) s1 := h1
  unfold lD at h1
  cases hm : (opV E rec ops o tm).run { s with rds := [], wrs := [] } with
  | bJ w => rw [hm] at h1; cases h1
  | ask b => rw [hm] at h1; cases h1
  | ok a1 sa =>
   rw [hm] at h1
   injection h1 with q1 q2
   injection q1 with q3 q4
   subst q3
   obtain ⟨r, w, ob, d⟩ := (opV E rec ops o tm).loc _ _ _ hm
   have er : sa.rds = r := by simpa using d.rds
   have ew : sa.wrs = w := by simpa using d.wrs
   have eo : sa.obs = ob ++ s.obs := d.obs
   subst q2
   refine ⟨f :: F, shift ⟨{ s with rds := [], wrs := [] }, a1, sa, r, w, ob⟩ ev, shift s.heap hp, shift s.next nx, shift tm tv, by rw [e1]; simp, ⟨rfl, ?_, rfl, ?_, rfl, ?_, by simp [t.jP], ?_, ?_, ?_, ?_, ?_, ?_⟩⟩
   ·simpa [shift] using t.hN
   ·simpa [shift] using t.nN
   ·simpa [shift] using t.tN
   ·intro k hk
    cases k with
    | zero => exact ⟨rfl, by simpa [shift] using t.h0.symm⟩
    | succ k => simpa [shift] using t.heap k (by simpa using hk)
   ·intro k hk
    cases k with
    | zero => exact ⟨rfl, by simpa [shift] using t.n0.symm⟩
    | succ k => simpa [shift] using t.next k (by simpa using hk)
   ·intro k o' hk
    cases k with
    | zero =>
     simp at hk; subst hk
     simpa [shift] using t.t0
    | succ k => simpa [shift] using t.tmps k o' (by simpa using hk)
   ·intro k o' hk
    cases k with
    | zero =>
     simp at hk; subst hk
     exact ⟨hm, d⟩
    | succ k => simpa [shift] using t.did k o' (by simpa using hk)
   ·intro k hk
    cases k with
    | zero =>
     simp only [shift]
     unfold bU at ho1
     simp only [eo, List.all_append, Bool.and_eq_true] at ho1
     exact ho1.1
    | succ k => simpa [shift] using t.ok k (by simpa using hk)
   ·intro k hk
    cases k with
    | zero =>
     have hn0 : nx 0 = sa.next := t.n0
     simp only [shift, List.getElem?_cons_zero, hn0, Nat.add_zero]
     rw [← q4, er, ew]
    | succ k =>
     have := t.RU k (by simpa using hk)
     simp only [shift, List.getElem?_cons_succ]
     have e : j + 1 + k = j + (k + 1) := by omega
     rw [e] at this
     exact this
theorem zZ {ops : List Oper} : ∀ (l : List Oper) (j : Nat) (fs : List gA), ∃ F : List gA, k9 ops j l fs = F.reverse ++ fs ∧ ∀ (k : Nat) (o : Oper), l[k]? = some o → F[k]? = some ⟨j + k, rE ops o, o.dst.toList, 0, 0⟩ := by
 intro l
 induction l with
 | nil => intro j fs; exact ⟨[], by simp [k9], fun k o h => by simp at h⟩
 | cons q l ih =>
  intro j fs
  obtain ⟨F, h1, h2⟩ := ih (j + 1) (⟨j, rE ops q, q.dst.toList, 0, 0⟩ :: fs)
  refine ⟨⟨j, rE ops q, q.dst.toList, 0, 0⟩ :: F, by simp only [k9, h1]; simp, fun k o hk => ?_⟩
  cases k with
  | zero => simp at hk; subst hk; simp
  | succ k =>
   have := h2 k o (by simpa using hk)
   have e : j + 1 + k = j + (k + 1) := by omega
   rw [e] at this
   simpa using this
theorem Tra.mono {rec : Rec} {ops : List Oper} {j : Nat} {l : List Oper} {tm tm' : List aA} {s s' : St} {F : List gA} {ev : Nat → Ev} {hp : Nat → Tr} {nx : Nat → Nat} {tv : Nat → List aA}
  (t : Tra E rec ops j l tm s tm' s' F ev hp nx tv) : ∀ i k, i ≤ k → k ≤ l.length → nx i ≤ nx k := by
 intro i k
 induction k with
 | zero =>
  intro h _; have : i = 0 := by omega
  subst this; exact Nat.le_refl _
 | succ k ih =>
  intro h hk
  by_cases e : i = k + 1
  ·subst e; exact Nat.le_refl _
  ·have h1 := ih (by omega) (by omega)
   obtain ⟨o, ho⟩ : ∃ o, l[k]? = some o := ⟨_, List.getElem?_eq_getElem (by omega)⟩
   have h2 := (t.did k o ho).2.next
   rw [(t.next k (by omega)).1, (t.next k (by omega)).2] at h2
   omega
theorem oA (tm : List aA) (d : Option Tmp) (v : aA) : (cE tm d v).length = tm.length := by
 cases d with
 | none => rfl
 | some d => exact jL tm d v
theorem lC (tm : List aA) (d : Option Tmp) (v : aA) (x : Nat) : (cE tm d v)[x]? = if d = some x then (if x < tm.length then some v else none) else tm[x]? := by
 cases d with
 | none => simp [cE]
 | some d =>
  simp only [cE, tJ, Option.some.injEq]
  by_cases e : x = d
  ·subst e
   by_cases hl : x < tm.length
   ·simp [hl]
   ·have hl' : tm.length ≤ x := Nat.not_lt.1 hl
    simp [hl, List.getElem?_eq_none hl']
  ·have e' : ¬ d = x := fun h => e h.symm
   simp [e, e']
theorem Tra.len {rec : Rec} {ops : List Oper} {j : Nat} {l : List Oper} {tm tm' : List aA} {s s' : St} {F : List gA} {ev : Nat → Ev} {hp : Nat → Tr} {nx : Nat → Nat} {tv : Nat → List aA}
  (t : Tra E rec ops j l tm s tm' s' F ev hp nx tv) : ∀ k, k ≤ l.length → (tv k).length = tm.length := by
 intro k
 induction k with
 | zero => intro _; rw [t.t0]
 | succ k ih =>
  intro hk
  obtain ⟨o, ho⟩ : ∃ o, l[k]? = some o := ⟨_, List.getElem?_eq_getElem (by omega)⟩
  rw [t.tmps k o ho, oA, ih (by omega)]
def TH (ev : Nat → Ev) (nx : Nat → Nat) (k x : Nat) : Prop := x ∈ (ev k).w ∨ (nx k ≤ x ∧ x < nx (k + 1))
def TT (l : List Oper) (k x : Nat) : Prop := ∃ o, l[k]? = some o ∧ o.dst = some x
theorem Tra.NK {rec : Rec} {ops : List Oper} {j : Nat} {l : List Oper} {tm tm' : List aA} {s s' : St} {F : List gA} {ev : Nat → Ev} {hp : Nat → Tr} {nx : Nat → Nat} {tv : Nat → List aA}
  (t : Tra E rec ops j l tm s tm' s' F ev hp nx tv) (x : Nat) : ∀ k, k ≤ l.length → gR s.heap.get (TH ev nx) (fun k x => (hp (k + 1)).get x) (fun _ => True) k x = (hp k).get x := by
 intro k
 induction k with
 | zero => intro _; simp only [gR, t.h0]
 | succ k ih =>
  intro hk
  simp only [gR]
  split
  ·rfl
  ·rename_i h
   have hn : ¬ TH ev nx k x := fun hh => h ⟨trivial, hh⟩
   obtain ⟨o, ho⟩ : ∃ o, l[k]? = some o := ⟨_, List.getElem?_eq_getElem (by omega)⟩
   have hr := (t.did k o ho).2.bM x (fun hh => hn (.inl hh)) (fun hh => hn (.inr (by
    have := hh.1; have := hh.2
    rw [(t.next k (by omega)).1] at *
    rw [(t.next k (by omega)).2] at *
    exact ⟨by assumption, by assumption⟩)))
   rw [(t.heap k (by omega)).1, (t.heap k (by omega)).2] at hr
   rw [ih (by omega), hr]
theorem Tra.GJ {rec : Rec} {ops : List Oper} {j : Nat} {l : List Oper} {tm tm' : List aA} {s s' : St} {F : List gA} {ev : Nat → Ev} {hp : Nat → Tr} {nx : Nat → Nat} {tv : Nat → List aA}
  (t : Tra E rec ops j l tm s tm' s' F ev hp nx tv) (x : Nat) : ∀ k, k ≤ l.length → gR (fun x => tm[x]?) (TT l) (fun k x => (tv (k + 1))[x]?) (fun _ => True) k x = (tv k)[x]? := by
 intro k
 induction k with
 | zero => intro _; simp only [gR, t.t0]
 | succ k ih =>
  intro hk
  simp only [gR]
  split
  ·rfl
  ·rename_i h
   obtain ⟨o, ho⟩ : ∃ o, l[k]? = some o := ⟨_, List.getElem?_eq_getElem (by omega)⟩
   have hd : ¬ o.dst = some x := fun hh => h ⟨trivial, o, ho, hh⟩
   rw [ih (by omega), t.tmps k o ho, lC, if_neg hd]
theorem sN : ∀ (l : List Bool) (i : Nat), l[i]? = some false → ((l.set i true).filter (!·)).length + 1 = (l.filter (!·)).length
 | [], i, h => by simp at h
 | b :: l, 0, h => by simp at h; subst h; simp
 | b :: l, i + 1, h => by
  have := sN l i (by simpa using h)
  cases b <;> simp at this ⊢ <;> omega
theorem qH : ∀ (l : List Bool), (l.filter (!·)).length = 0 → ∀ (i : Nat) (b : Bool), l[i]? = some b → b = true
 | [], _, i, b, h => by simp at h
 | c :: l, hz, i, b, h => by
  cases c with
  | false => simp at hz
  | true =>
   cases i with
   | zero => simp at h; exact h.symm ▸ rfl
   | succ i => exact qH l (by simpa using hz) i b (by simpa using h)
section
variable {ρ₀ : Ren} {m : Mem} {s s' : St} {w₀ : World}
structure Inv (E : Env) (ρ₀ : Ren) (m : Mem) (s : St) (w₀ : World) (a₀ : Act) (l : List Oper) (tm : List aA) (ev : Nat → Ev) (hp : Nat → Tr) (nx : Nat → Nat) (tv : Nat → List aA) (S : Nat → Prop) (a : Act) (w : World) (ρ : Ren) (h : Tr) (ts : List aA) : Prop where
 heap : ∀ x, h.get x = gR s.heap.get (TH ev nx) (fun k x => (hp (k + 1)).get x) S l.length x
 len : ts.length = tm.length
 tmps : ∀ x : Nat, ts[x]? = gR (fun x => tm[x]?) (TT l) (fun k x => (tv (k + 1))[x]?) S l.length x
 zJ : ∀ k o, S k → l[k]? = some o → ∀ e ∈ o.after, Region.binds .any e = true → S e.on
 rel : Rel E.P ρ m h.get w
 rl : RL ρ m ts a.tmps
 ren : gU ρ₀ ρ
 new : ∀ id, ρ id ≠ none → ρ₀ id ≠ none ∨ ∃ k, S k ∧ k < l.length ∧ nx k ≤ id ∧ id < nx (k + 1)
 fr : Fr w₀ w
 defers : a.defers = a₀.defers
theorem Inv.step {rec : Rec} (hrec : mH E.P rec) {ops : Array Oper} {tm tm' : List aA} {F : List gA} {ev : Nat → Ev} {hp : Nat → Tr} {nx : Nat → Nat} {tv : Nat → List aA} {a₀ a : Act} {w : World} {ρ : Ren} {h : Tr} {ts : List aA} {S : Nat → Prop}
  (t : Tra E rec ops.toList 0 ops.toList tm s tm' s' F ev hp nx tv) (hback : rQ 0 ops.toList = true) (hfine : dX (dU [] ops.toList) F.reverse = true) (htext : dX (dU [] ops.toList) (k9 ops.toList 0 ops.toList []) = true) (hfr : eX ρ₀ s s')
  (I : Inv E ρ₀ m s w₀ a₀ ops.toList tm ev hp nx tv S a w ρ h ts) {i : Nat} {o : Oper} (hi : ops[i]? = some o) (hS : ¬ S i) (hall : ∀ e ∈ o.after, Region.binds .any e = true → S e.on) {ro : Option Nat} {n : Nat} {Q : Exit → Act → World → Prop} {next : Act → World → Prop}
  (hk : ∀ x w' ρ' h' ts', Inv E ρ₀ m s w₀ a₀ ops.toList tm ev hp nx tv (fun k => S k ∨ k = i) (a.put o.dst x) w' ρ' h' ts' → next (a.put o.dst x) w') :
  if Region.wanted o (yielded ops a.tmps) then o.wpIn (Fw ro) n E.P a w next Q else (∀ f, o.about E.P w a.eval = some f → (Fw ro).fn f) ∧ next (a.put o.dst Go.undef) w := by
 have hil : i < ops.toList.length := by simpa using (Array.getElem?_eq_some_iff.1 hi).1
 have hi' : ops.toList[i]? = some o := by simpa using hi
 have ahead : ∀ j, ((dU [] ops.toList).getD i 0).testBit j = true → S j := sW hback I.zJ i o hi' hall
 have behind : ∀ k, i < k → k < ops.toList.length → S k → ((dU [] ops.toList).getD k 0).testBit i = true → False := fun k _ hk hs hb => by
  obtain ⟨ok, hok⟩ : ∃ ok, ops.toList[k]? = some ok := ⟨_, List.getElem?_eq_getElem hk⟩
  exact hS (sW hback I.zJ k ok hok (I.zJ k ok hs hok) i hb)
 have sep : ∀ j k, j < k → k < ops.toList.length → ((dU [] ops.toList).getD k 0).testBit j ≠ true → ∀ x,
   ((x ∈ (ev j).r ∨ x ∈ (ev j).w ∨ (nx j ≤ x ∧ x < nx (j + 1))) → TH ev nx k x → False) ∧ (TH ev nx j x → (x ∈ (ev k).r ∨ x ∈ (ev k).w ∨ (nx k ≤ x ∧ x < nx (k + 1))) → False) := by
  intro j k hjk hk hb x
  have := E7 hfine hjk (t.RU j (by omega)) (t.RU k hk)
  have hc := this.resolve_right (by simpa using hb)
  exact WR hc (t.mono (j + 1) k (by omega) (by omega))
 have sepT : ∀ j k oj ok, j < k → ops.toList[j]? = some oj → ops.toList[k]? = some ok → ((dU [] ops.toList).getD k 0).testBit j ≠ true → ∀ x,
   ((x ∈ rE ops.toList oj ∨ oj.dst = some x) → ok.dst = some x → False) ∧ (oj.dst = some x → (x ∈ rE ops.toList ok ∨ ok.dst = some x) → False) := by
  intro j k oj ok hjk hj hk hb x
  obtain ⟨FT, e1, e2⟩ := zZ (ops := ops.toList) ops.toList 0 []
  rw [e1, List.append_nil] at htext
  have := E7 htext hjk (e2 j oj hj) (e2 k ok hk)
  have hb' : ((dU [] ops.toList).getD (0 + k) 0).testBit (0 + j) ≠ true := by simpa using hb
  obtain ⟨c1, c2, c3, _⟩ := sX (this.resolve_right hb')
  simp only at c1 c2 c3
  refine ⟨fun hx hd => ?_, fun hd hx => ?_⟩
  ·rcases hx with hx | hx
   ·exact iK c3 hx (by simp [hd])
   ·exact iK c2 (a := x) (by simp [hx]) (by simp [hd])
  ·rcases hx with hx | hx
   ·exact iK c1 (a := x) (by simp [hd]) hx
   ·exact iK c2 (a := x) (by simp [hd]) (by simp [hx])
 obtain ⟨hrun, hd⟩ := t.did i o hi'
 obtain ⟨n1, n2⟩ := t.next i hil
 obtain ⟨g1, g2⟩ := t.heap i hil
 have hnew : ∀ x, New (ev i).s (ev i).s' x ↔ (nx i ≤ x ∧ x < nx (i + 1)) := fun x => by unfold New; rw [n1, n2]
 have agree : ∀ x, (x ∈ (ev i).r ∨ x ∈ (ev i).w ∨ (nx i ≤ x ∧ x < nx (i + 1))) → h.get x = (hp i).get x := by
  intro x hx
  rw [I.heap x, mO (i := i) (by omega), t.NK x i (by omega)]
  ·intro j hj hT
   by_cases hb : ((dU [] ops.toList).getD i 0).testBit j = true
   ·exact ahead j hb
   ·exact ((sep j i hj hil hb x).2 hT hx).elim
  ·intro k hk hkn hs hT
   have hne : i ≠ k := fun e => hS (e ▸ hs)
   by_cases hb : ((dU [] ops.toList).getD k 0).testBit i = true
   ·exact behind k (by omega) hkn hs hb
   ·exact (sep i k (by omega) hkn hb x).1 hx hT
 have agreeT : ∀ x ∈ rE ops.toList o, nth ts x undef = nth (tv i) x undef := by
  intro x hx
  rw [gJ, gJ, I.tmps x, mO (i := i) (by omega), t.GJ x i (by omega)]
  ·rintro j hj ⟨oj, hoj, hdj⟩
   by_cases hb : ((dU [] ops.toList).getD i 0).testBit j = true
   ·exact ahead j hb
   ·exact ((sepT j i oj o hj hoj hi' hb x).2 hdj (.inl hx)).elim
  ·rintro k hk hkn hs ⟨ok, hok, hdk⟩
   have hne : i ≠ k := fun e => hS (e ▸ hs)
   by_cases hb : ((dU [] ops.toList).getD k 0).testBit i = true
   ·exact behind k (by omega) hkn hs hb
   ·exact (sepT i k o ok (by omega) hi' hok hb x).1 (.inl hx) hdk
 obtain ⟨t', ht', q1, q2, q3, q4, q5, q6, q7⟩ := hd.rR { heap := h, next := nx i, rds := [], wrs := [], obs := [], orc := (ev i).s.orc } n1.symm rfl (fun x hx => by
  rw [g1]
  refine agree x ?_
  rcases hx with hx | hx | hx
  ·exact .inl hx
  ·exact .inr (.inl hx)
  ·exact .inr (.inr ((hnew x).1 hx)))
 have hok : bU t' := by unfold bU; rw [q5]; simpa using t.ok i hil
 rw [F9 (tm := tv i) (tm' := ts) (fun x hx => (agreeT x hx).symm)] at ht'
 have hfresh : eX ρ { heap := h, next := nx i, rds := [], wrs := [], obs := [], orc := (ev i).s.orc } t' := by
  intro id hid
  have h1 : nx i ≤ id := hid.1
  have h2 : id < nx (i + 1) := by have := hid.2; rw [q1, n2] at this; exact this
  cases e : ρ id with
  | none => rfl
  | some r =>
   rcases I.new id (by rw [e]; simp) with h0 | ⟨k, hsk, hkl, hk1, hk2⟩
   ·refine absurd (hfr id ⟨?_, ?_⟩) h0
    ·have := t.mono 0 i (by omega) (by omega); rw [t.n0] at this; omega
    ·have := t.mono (i + 1) ops.toList.length (by omega) (by omega); rw [t.nN] at this; omega
   ·have hne : i ≠ k := fun e => hS (e ▸ hsk)
    rcases Nat.lt_or_ge i k with hlt | hge
    ·have := t.mono (i + 1) k (by omega) (by omega); omega
    ·have := t.mono (k + 1) i (by omega) (by omega); omega
 refine yO hrec ht' hok I.rel hfresh I.rl (fun x w' ρ' hpost hx => ?_)
 refine hk x w' ρ' t'.heap (cE ts o.dst (ev i).v) ⟨fun y => ?_, by rw [oA, I.len], fun y => ?_, ?_, hpost.rel, tI (I.rl.mono hpost.ren hpost.mle) o.dst hx, fun id r hr => hpost.ren id r (I.ren id r hr), fun id hid => ?_,
  I.fr.trans hpost.fr, by rw [Act.pZ, I.defers]⟩
 ·rw [AN hS hil]
  ·by_cases hT : TH ev nx i y
   ·rw [if_pos hT]
    have := q6 y (by
     rcases hT with hT | hT
     ·exact .inl hT
     ·exact .inr ((hnew y).2 hT))
    rw [this, g2]
   ·rw [if_neg hT]
    have := q7 y (fun hh => hT (.inl hh)) (fun hh => hT (.inr ((hnew y).1 hh)))
    rw [this]
    exact I.heap y
  ·intro hT k hik hkn hs hTk
   by_cases hb : ((dU [] ops.toList).getD k 0).testBit i = true
   ·exact behind k hik hkn hs hb
   ·exact (sep i k hik hkn hb y).1 (hT.imp (fun h => h) (fun h => h) |>.elim (fun h => .inr (.inl h)) (fun h => .inr (.inr h))) hTk
 ·rw [AN hS hil]
  ·by_cases hT : TT ops.toList i y
   ·rw [if_pos hT]
    obtain ⟨o', ho', hdo⟩ := hT
    rw [hi'] at ho'
    injection ho' with ho'
    subst ho'
    rw [t.tmps i o hi', lC, lC, if_pos hdo, if_pos hdo, I.len, t.len i (by omega)]
   ·rw [if_neg hT]
    have hdo : ¬ o.dst = some y := fun hh => hT ⟨o, hi', hh⟩
    rw [lC, if_neg hdo]
    exact I.tmps y
  ·rintro ⟨o', ho', hdo⟩ k hik hkn hs ⟨ok, hok', hdk⟩
   by_cases hb : ((dU [] ops.toList).getD k 0).testBit i = true
   ·exact behind k hik hkn hs hb
   ·exact (sepT i k o' ok hik ho' hok' hb y).1 (.inr hdo) hdk
 ·intro k ok hs hok' e he hbe
  rcases hs with hs | rfl
  ·exact .inl (I.zJ k ok hs hok' e he hbe)
  ·rw [hi'] at hok'
   injection hok' with hok'
   subst hok'
   exact .inl (hall e he hbe)
 ·rcases hpost.new id hid with h1 | h1
  ·rcases I.new id h1 with h2 | ⟨k, hsk, h3⟩
   ·exact .inl h2
   ·exact .inr ⟨k, .inl hsk, h3⟩
  ·refine .inr ⟨i, .inr rfl, hil, h1.1, ?_⟩
   have := h1.2
   rw [q1, n2] at this
   exact this
theorem N6 {rec : Rec} (hrec : mH E.P rec) {ops : Array Oper} {tm tm' : List aA} {F : List gA} {ev : Nat → Ev} {hp : Nat → Tr} {nx : Nat → Nat} {tv : Nat → List aA} {a₀ : Act}
  (t : Tra E rec ops.toList 0 ops.toList tm s tm' s' F ev hp nx tv) (hback : rQ 0 ops.toList = true) (hfine : dX (dU [] ops.toList) F.reverse = true) (htext : dX (dU [] ops.toList) (k9 ops.toList 0 ops.toList []) = true) (hfr : eX ρ₀ s s')
  {ro : Option Nat} {n : Nat} {Q : Exit → Act → World → Prop} (hQ : ∀ a' w' ρ', eW E.P ρ₀ m s w₀ ρ' m s' w' → RL ρ' m tm' a'.tmps → a'.defers = a₀.defers → Q .normal a' w') :
  ∀ (fuel : Nat) (listed : Array Bool), listed.size = ops.size → (listed.toList.filter (!·)).length ≤ fuel → ∀ a w ρ h ts, Inv E ρ₀ m s w₀ a₀ ops.toList tm ev hp nx tv (fun k => listed.getD k false = true) a w ρ h ts →
   wpAnyIn (Fw ro) n E.P .any ops Q fuel listed a w := by
 intro fuel
 have lst : ∀ (listed : Array Bool), listed.size = ops.size → ∀ k, listed.getD k true = false ↔ (k < ops.size ∧ ¬ listed.getD k false = true) := by
  intro listed hsz k
  by_cases hk : k < ops.size
  ·have : k < listed.size := by omega
   simp [Array.getD, this, hk]
  ·have : ¬ k < listed.size := by omega
   simp [Array.getD, this, hk]
 have done : ∀ (listed : Array Bool), listed.size = ops.size → Region.ready .any ops listed = [] → ∀ a w ρ h ts, Inv E ρ₀ m s w₀ a₀ ops.toList tm ev hp nx tv (fun k => listed.getD k false = true) a w ρ h ts → Q .normal a w := by
  intro listed hsz hr a w ρ h ts I
  have all : ∀ k, k < ops.size → listed.getD k false = true := by
   intro k
   induction k using Nat.strongRecOn with
   | _ k ih =>
    intro hk
    by_cases hl : listed.getD k false = true
    ·exact hl
    ·have ho : ops[k]? = some ops[k] := Array.getElem?_eq_getElem hk
     have : k ∈ Region.ready .any ops listed := mem_ready.2 ⟨(lst listed hsz k).2 ⟨hk, hl⟩, ops[k], ho, fun e he hb => by
      have := qM ops.toList 0 hback k ops[k] (by rw [Array.getElem?_toList]; exact ho) e he hb
      exact ih e.on (by omega) (by omega)⟩
     rw [hr] at this
     cases this
  have hT : ∀ {α : Type} (dN : Nat → α) (T : Nat → Nat → Prop) (V : Nat → Nat → α) (x : Nat), gR dN T V (fun k => listed.getD k false = true) ops.toList.length x = gR dN T V (fun _ => True) ops.toList.length x := by
   intro α dN T V x
   exact mO (Nat.le_refl _) (fun j hj _ => all j (by simpa using hj)) (fun k hk hk' => by omega)
  refine hQ a w ρ ⟨I.ren, fun id hid => ?_, fun _ _ h => h, I.rel.congr (fun id => ?_), I.fr, ?_⟩ ?_ I.defers
  ·rcases I.new id hid with h0 | ⟨k, _, hkl, h1, h2⟩
   ·exact .inl h0
   ·refine .inr ⟨?_, ?_⟩
    ·have := t.mono 0 k (by omega) (by omega); rw [t.n0] at this; omega
    ·have := t.mono (k + 1) ops.toList.length (by omega) (by omega); rw [t.nN] at this; omega
  ·rw [I.heap id, hT, t.NK id _ (Nat.le_refl _), t.hN]
  ·have := t.mono 0 ops.toList.length (by omega) (by omega); rw [t.n0, t.nN] at this; exact this
  ·have : ts = tm' := by
    apply List.ext_getElem?
    intro x
    rw [I.tmps x, hT, t.GJ x _ (Nat.le_refl _), t.tN]
   rw [← this]; exact I.rl
 induction fuel with
 | zero =>
  intro listed hsz hc a w ρ h ts I
  have hr : Region.ready .any ops listed = [] := by
   cases hr : Region.ready .any ops listed with
   | nil => rfl
   | cons j l =>
    have hj : j ∈ Region.ready .any ops listed := by rw [hr]; exact List.mem_cons_self
    obtain ⟨h1, o, h2, _⟩ := mem_ready.1 hj
    have hj' := (lst listed hsz j).1 h1
    have hlt : j < listed.size := by omega
    have := qH listed.toList (by omega) j listed[j] (by simp [hlt])
    exfalso
    apply hj'.2
    simp [Array.getD, hlt, this]
  exact ⟨hr, done listed hsz hr a w ρ h ts I⟩
 | succ fuel ih =>
  intro listed hsz hc a w ρ h ts I
  refine ⟨fun hr => done listed hsz hr a w ρ h ts I, fun i hi => ?_⟩
  obtain ⟨h1, o, h2, h3⟩ := mem_ready.1 hi
  have hi' := (lst listed hsz i).1 h1
  unfold wpOpIn
  rw [h2]
  refine I.step hrec t hback hfine htext hfr h2 hi'.2 h3 (fun x w' ρ' h' ts' I' => ?_)
  refine ih (listed.setIfInBounds i true) (by simpa using hsz) ?_ _ w' ρ' h' ts' ?_
  ·have hlt : i < listed.size := by omega
   have hf : listed.toList[i]? = some false := by
    have : listed.getD i true = listed[i] := by simp [Array.getD, hlt]
    rw [this] at h1
    simp [hlt, h1]
   have := sN listed.toList i hf
   simp only [Array.toList_setIfInBounds]
   omega
  ·have e : (fun k => (listed.setIfInBounds i true).getD k false = true) = fun k => listed.getD k false = true ∨ k = i := by
    funext k
    apply propext
    have hlt : i < listed.size := by omega
    by_cases hk : k = i
    ·subst hk
     simp [Array.getD, hlt]
    ·have hk' : ¬ i = k := fun h => hk h.symm
     simp only [hk, or_false]
     simp only [Array.getD_eq_getD_getElem?, Array.getElem?_setIfInBounds, hk', if_false]
   rw [e]; exact I'
theorem JH {rec : Rec} (hrec : mH E.P rec) {fn : FuncId} {rnd : Option Nat} {id : Nat} {ops : Array Oper} : rT E.P rnd (.region id ops true) (step E rec fn rnd (.region id ops true)) := by
 intro tm e tm' s s' h ho ρ m w a o n Q hr hf ht hn hQ
 simp only [step] at h
 cases hk : jZ E.yG fn id (.region id ops true) with
 | some act =>
  rw [hk] at h
  exact rP hk rnd tm e tm' s s' h ho ρ m w a o n Q hr hf ht hn hQ
 | none =>
 rw [hk] at h
 obtain ⟨tm1, s1, h1, h2⟩ := M.aK h
 obtain ⟨he1, rfl⟩ := aC h2
 injection he1 with q1 q2
 subst q1; subst q2
 obtain ⟨_, s2, h3, h4, ho2, _, n2⟩ := M.aJ h1 ho
 obtain ⟨htx, e2⟩ := eK h3 ho2
 obtain ⟨⟨tm3, fs⟩, s3, h5, h6, ho3, _, _⟩ := M.aJ h4 ho
 obtain ⟨_, s4, h7, h8⟩ := M.aK h6
 obtain ⟨rfl, rfl⟩ := aC h8
 obtain ⟨hfine, e7⟩ := eK h7 ho
 obtain ⟨F, ev, hp, nx, tv, rfl, t⟩ := zD _ _ _ _ _ _ _ _ h5 ho3
 rw [List.append_nil] at hfine
 have htx' : rQ 0 ops.toList = true ∧ dX (dU [] ops.toList) (k9 ops.toList 0 ops.toList []) = true := by
  have : qP ops.toList = true := htx
  unfold qP at this
  simpa using this
 have hr2 := hr.bS e2
 have hf2 : eX ρ s2 s3 := fun i hi => hf i ⟨by have := hi.1; rw [e2.next] at this; exact this, by have := hi.2; rw [e7.next]; exact this⟩
 refine wpIn_region_any E.DZ (N6 (ρ₀ := ρ) (m := m) (w₀ := w) (a₀ := a) hrec t htx'.1 hfine htx'.2 hf2 (fun a' w' ρ' hp' ht' hd => ?_) ops.size (Array.replicate ops.size false) (by simp) (by simp) a _ ρ s2.heap tm ?_)
 ·have hpost : eW E.P ρ m s w ρ' m s' w' := ⟨hp'.ren, fun i hi => (hp'.new i hi).imp_right fun x => ⟨by have := x.1; rw [e2.next] at this; exact this, by have := x.2; rw [e7.next]; exact this⟩, hp'.mem, hp'.rel.bS e7, hp'.fr, by
   have := hp'.next; rw [e2.next] at this; rw [e7.next]; exact this⟩
  refine hQ _ _ _ ρ' [] ⟨?_, ?_, .normal, hd, .nil m, fun _ => rfl⟩
  ·rw [Mem.gK]; exact hpost
  ·rw [Mem.gK]; exact uX ht'
 ·have none : ∀ k, ¬ ((Array.replicate ops.size false).getD k false = true) := fun k => by
   by_cases hk : k < ops.size <;> simp [Array.getD, hk]
  have hl : ∀ {α : Type} (dN : Nat → α) (T : Nat → Nat → Prop) (V : Nat → Nat → α) (x : Nat), gR dN T V (fun k => (Array.replicate ops.size false).getD k false = true) ops.toList.length x = dN x := by
   intro α dN T V x
   rw [mO (i := 0) (Nat.zero_le _) (fun j hj => by omega) (fun k _ _ hs => absurd hs (none k))]
   rfl
  exact ⟨fun x => by rw [hl], rfl, fun x => by rw [hl], fun k _ hs => absurd hs (none k), hr2.drew, ht, .refl ρ, fun _ h => .inl h, .drew w, rfl⟩
end
end Go.Am
set_option linter.unusedSimpArgs false
set_option linter.unusedVariables false
namespace Go.Am
open Go Go.RowKit
variable {E : Env}
theorem GM {rec : Rec} (hrec : mH E.P rec) {fn : FuncId} {rnd : Option Nat} {c : Code} (hc : ∀ b, c ≠ .loop b) : rT E.P rnd c (step E rec fn rnd c) := by
 cases c with
 | skip =>
  intro tm e tm' s s' h ho ρ m w a o n Q hr hf ht hn hQ
  obtain ⟨he, rfl⟩ := aC h
  injection he with q1 q2
  subst q1; subst q2
  exact wpIn_skip (hQ _ _ _ _ _ (.A0 hr (.refl _) ht .normal))
 | label l =>
  intro tm e tm' s s' h ho ρ m w a o n Q hr hf ht hn hQ
  obtain ⟨he, rfl⟩ := aC h
  injection he with q1 q2
  subst q1; subst q2
  exact wpIn_label (hQ _ _ _ _ _ (.A0 hr (.refl _) ht .normal))
 | exit id =>
  intro tm e tm' s s' h ho ρ m w a o n Q hr hf ht hn hQ
  obtain ⟨he, rfl⟩ := aC h
  injection he with q1 q2
  subst q1; subst q2
  exact wpIn_exit (hQ _ _ _ _ _ (.A0 hr (.refl _) ht (.exit id)))
 | ret =>
  intro tm e tm' s s' h ho ρ m w a o n Q hr hf ht hn hQ
  obtain ⟨he, rfl⟩ := aC h
  injection he with q1 q2
  subst q1; subst q2
  exact wpIn_ret (hQ _ _ _ _ _ (.A0 hr (.refl _) ht .ret))
 | region id ops draw =>
  cases draw with
  | false => exact C4 hrec
  | true => exact JH hrec
 | seq x y => exact LA hrec
 | cond c x y => exact JL hrec
 | block id c => exact G2 hrec
 | loop b => exact absurd rfl (hc b)
 | rangeFunc f ps as body => exact wK hrec
 | scope c => exact ET hrec
 | goto l => intro tm e tm' s s' h; exact (aD h).elim
 | refuse w => intro tm e tm' s s' h; exact (aD h).elim
theorem xR : ∀ n, mH E.P (jI E n) := by
 intro n
 induction n using Nat.strongRecOn with
 | _ n ih =>
  intro fn rnd c
  cases n with
  | zero => intro tm e tm' s s' h; exact (aD h).elim
  | succ n =>
   by_cases hc : ∃ b, c = .loop b
   ·obtain ⟨b, rfl⟩ := hc
    exact I7 (F := jI E) (fun tm e tm' s s' h => aD h) (fun j _ => rfl) (fun j hj => ih j hj fn rnd b)
   ·exact GM (ih n (by omega)) (fun b hb => hc ⟨b, hb⟩)
def oldMem (w : World) : Mem := fun b => w.heap[b]?
theorem MV {f : FuncId} {n : Nat} {args : List aA} {xs : Array Value} {w : World} {v : aA} {s s' : St} (h : (bO E (jI E n) f args).run s = .ok v s') (ho : bU s') (hs : ∀ id, s.heap.get id = none) (hx : RL (fun _ => none) (oldMem w) args xs) :
  Calls E.P f xs w fun e w' => ∃ x ρ', e = .returned x ∧ R ρ' (oldMem w) v x ∧ Below w.heap.size w w' := by
 have hr : Rel E.P (fun _ => none) (oldMem w) s.heap.get w := ⟨fun id b hb => absurd hb (by rw [hs id]; simp), fun i j b c r r' hb => absurd hb (by rw [hs i]; simp), fun b o hb => hb⟩
 rcases mF (xR n) f args s v s' h ho _ _ w xs hr (fun _ _ => rfl) hx with ⟨_, hc⟩ | ⟨x, w', he, _⟩
 ·refine hc.mono (fun e w' hh => ?_)
  obtain ⟨x, rfl, ρ', hp, hx⟩ := hh
  refine ⟨x, ρ', rfl, hx, hp.fr.os, hp.fr.tape, hp.fr.output, hp.fr.size, fun k hk => ?_⟩
  have : (oldMem w) k = some w.heap[k] := by simp [oldMem, hk]
  rw [hp.rel.mem k _ this]
  exact this.symm
 ·exfalso
  unfold bO at h
  split at h
  ·rename_i hb
   have hfok := (E.funcs.find f).ok
   rw [Nat.eq_of_beq_eq_true hb] at hfok
   rw [hfok.call] at he
   injection he with he
   cases he
  ·exact (aD h).elim
end Go.Am
set_option linter.unusedSimpArgs false
set_option linter.unusedVariables false
namespace Go.Am
open Go
structure Use where
 fn : FuncId
 rnd : Option Nat
 c : Code
 tm : List aA
 s : St
 e : gH
 tm' : List aA
 s' : St
def Use.In (u : Use) (rec : Rec) : Prop := (rec u.fn u.rnd u.c u.tm).run u.s = .ok (u.e, u.tm') u.s'
structure fY {α : Type} (X : Rec → M α) : Prop where
 out : ∀ rec s a s', (X rec).run s = .ok a s' → ∃ L : List Use, (∀ u ∈ L, u.In rec) ∧ ∀ rec', (∀ u ∈ L, u.In rec') → (X rec').run s = .ok a s'
theorem fY.const {α : Type} (m : M α) : fY (fun _ => m) := ⟨fun _ s a s' h => ⟨[], (fun _ hu => by cases hu), fun _ _ => h⟩⟩
theorem fY.use (fn : FuncId) (rnd : Option Nat) (c : Code) (tm : List aA) : fY (fun rec => rec fn rnd c tm) := ⟨fun rec s a s' h =>
 ⟨[⟨fn, rnd, c, tm, s, a.1, a.2, s'⟩], fun u hu => by simp only [List.mem_singleton] at hu; subst hu; exact h, fun rec' hr => hr _ (List.mem_singleton.2 rfl)⟩⟩
theorem fY.bind {α β : Type} {X : Rec → M α} {f : Rec → α → M β} (hX : fY X) (hf : ∀ a, fY (fun rec => f rec a)) : fY (fun rec => (X rec).bind (f rec)) := by
 refine ⟨fun rec s b s2 h => ?_⟩
 obtain ⟨a, s1, h1, h2⟩ := M.aK h
 obtain ⟨L1, q1, r1⟩ := hX.out rec s a s1 h1
 obtain ⟨L2, q2, r2⟩ := (hf a).out rec s1 b s2 h2
 refine ⟨L1 ++ L2, fun u hu => (List.mem_append.1 hu).elim (q1 u) (q2 u), fun rec' hr => ?_⟩
 have e1 := r1 rec' fun u hu => hr u (List.mem_append.2 (.inl hu))
 have e2 := r2 rec' fun u hu => hr u (List.mem_append.2 (.inr hu))
 simp only [M.bind, lG, e1, e2]
variable {E : Env}
theorem xO (f : FuncId) (args : List aA) : fY (fun rec => bO E rec f args) := by
 unfold bO
 split
 ·exact fY.bind (.use ..) fun r => .const _
 ·exact .const _
theorem CY (f : FuncId) (args : List aA) {k : Rec → M aA} (hk : fY k) : ∀ l : List (rU E.P), fY (fun rec => oD E l f args (k rec)) := by
 intro l
 induction l with
 | nil => exact hk
 | cons h l ih =>
  simp only [oD]
  split
  ·exact .const _
  ·exact ih
theorem xP (f : FuncId) (args : List aA) : fY (fun rec => iC E rec f args) := CY f args (xO f args) E.uU
theorem xN {α : Type} {k : Rec → lU → M α} (hk : ∀ l, fY (fun rec => k rec l)) (b : Blk) : fY (fun rec => dI (k rec) b) := by
 unfold dI
 split
 ·exact hk _
 ·exact .const _
theorem B2 (id : Nat) (args : List aA) : fY (fun rec => qN rec id args) := by
 unfold qN
 refine fY.bind (.const _) fun b => xN (fun l => ?_) b
 split
 ·exact .const _
 ·split
  ·refine fY.bind (.use ..) fun r => ?_
   split
   ·refine fY.bind (.const _) fun b => xN (fun l2 => ?_) b
    split
    ·refine fY.bind (.const _) fun _ => fY.bind (.use ..) fun r2 => ?_
     exact .const _
    ·exact .const _
   ·exact .const _
  ·exact .const _
theorem FP (f : aA) (args : List aA) : fY (fun rec => nF E rec f args) := by
 unfold nF
 split
 ·split
  ·exact xP _ _
  ·split
   ·exact B2 _ _
   ·exact .const _
  ·exact .const _
 ·exact .const _
theorem D3 (tm : List aA) (c : Call) : fY (fun rec => cN E rec tm c) := by
 unfold cN
 split
 ·exact FP _ _
 ·exact .const _
 ·exact .const _
theorem CZ (tm : List aA) (o : Op) : fY (fun rec => execOp E rec tm o) := by
 unfold execOp
 split
 all_goals first
  | exact .const _
  | exact D3 _ _
theorem E8 (ops : List Oper) (o : Oper) (tm : List aA) : fY (fun rec => opV E rec ops o tm) := by
 unfold opV
 refine fY.bind (.const _) fun w => ?_
 split
 ·exact CZ _ _
 ·exact .const _
theorem B3 (ops : List Oper) : ∀ (l : List Oper) (tm : List aA), fY (fun rec => jY E rec ops l tm) := by
 intro l
 induction l with
 | nil => intro tm; exact .const _
 | cons o l ih =>
  intro tm
  simp only [jY, FA]
  exact fY.bind (fY.bind (E8 ops o tm) fun v => .const _) fun tm => ih tm
theorem JD {α : Type} (j : Nat) {X : Rec → M α} (hX : fY X) : fY (fun rec => jP j (X rec)) := by
 refine ⟨fun rec s a s' h => ?_⟩
 simp only [jP, lD] at h
 cases hm : (X rec).run { s with rds := [], wrs := [] } with
 | bJ w => rw [hm] at h; cases h
 | ask b => rw [hm] at h; cases h
 | ok a1 s1 =>
  rw [hm] at h
  obtain ⟨L, q, r⟩ := hX.out rec _ _ _ hm
  refine ⟨L, q, fun rec' hr => ?_⟩
  simp only [jP, lD, r rec' hr]
  exact h
theorem zB (ops : List Oper) : ∀ (l : List Oper) (j : Nat) (tm : List aA) (fs : List gA), fY (fun rec => iX E rec ops j l tm fs) := by
 intro l
 induction l with
 | nil => intro j tm fs; exact .const _
 | cons o l ih =>
  intro j tm fs
  simp only [iX]
  exact fY.bind (JD j (E8 ops o tm)) fun r => ih _ _ _
theorem vA (fn : FuncId) (rnd : Option Nat) (c : Code) (tm : List aA) : fY (fun rec => step E rec fn rnd c tm) := by
 unfold step
 split
 ·exact .const _
 ·exact .const _
 ·split
  ·exact fY.bind (B3 _ _ _) fun _ => .const _
  ·split
   ·exact .const _
   ·unfold vB
    exact fY.bind (fY.bind (.const _) fun _ => fY.bind (zB _ _ _ _ _) fun _ => .const _) fun _ => .const _
 ·refine fY.bind (.use ..) fun r => ?_
  split
  ·exact .use ..
  ·exact .const _
 ·refine fY.bind (.const _) fun t => ?_
  split
  ·exact .use ..
  ·exact .use ..
 ·split
  ·exact .const _
  ·refine fY.bind (.use ..) fun r => ?_
   exact .const _
 ·refine fY.bind (.use ..) fun r => ?_
  split
  ·exact .use ..
  ·exact .const _
 ·split
  ·split
   ·split
    ·exact fY.bind (.const _) fun _ => fY.bind (.const _) fun id => fY.bind (xP _ _) fun _ => .const _
    ·exact .const _
   ·exact .const _
  ·exact .const _
 ·exact .const _
 ·exact .use ..
 ·exact .const _
 ·exact .const _
theorem D6 : ∀ n fn rnd c tm s r s', (jI E n fn rnd c tm).run s = .ok r s' → (jI E (n + 1) fn rnd c tm).run s = .ok r s' := by
 intro n
 induction n with
 | zero => intro fn rnd c tm s r s' h; cases h
 | succ n ih =>
  intro fn rnd c tm s r s' h
  obtain ⟨L, q, hr⟩ := (vA fn rnd c tm).out (jI E n) s r s' h
  exact hr (jI E (n + 1)) fun u hu => ih _ _ _ _ _ _ _ (q u hu)
theorem rM {n m : Nat} (hm : n ≤ m) {fn rnd c tm s r s'} (h : (jI E n fn rnd c tm).run s = .ok r s') : (jI E m fn rnd c tm).run s = .ok r s' := by
 induction hm with
 | refl => exact h
 | step _ ih => exact D6 _ _ _ _ _ _ _ _ ih
open Classical in
noncomputable def wF (E : Env) (fn : FuncId) (rnd : Option Nat) (c : Code) (tm : List aA) (s : St) : Res (gH × List aA) :=
 if h : ∃ n r s', (jI E n fn rnd c tm).run s = .ok r s' then (jI E h.choose fn rnd c tm).run s else .bJ "no end"
theorem GD {fn rnd c tm s r s'} : wF E fn rnd c tm s = .ok r s' ↔ ∃ n, (jI E n fn rnd c tm).run s = .ok r s' := by
 unfold wF
 constructor
 ·intro h
  split at h
  ·exact ⟨_, h⟩
  ·cases h
 ·rintro ⟨n, hn⟩
  have hex : ∃ n r s', (jI E n fn rnd c tm).run s = .ok r s' := ⟨n, r, s', hn⟩
  rw [dif_pos hex]
  obtain ⟨r2, s2, h2⟩ := hex.choose_spec
  have e1 := rM (Nat.le_max_left n hex.choose) hn
  have e2 := rM (Nat.le_max_right n hex.choose) h2
  rw [h2]
  rw [e1] at e2
  exact e2.symm
theorem TZ {fn rnd c tm} : Loc (wF E fn rnd c tm) := by
 intro s a s' h
 obtain ⟨n, hn⟩ := GD.1 h
 obtain ⟨r, w, o, d⟩ := (jI E n fn rnd c tm).loc _ _ _ hn
 exact ⟨r, w, o, d.next, d.rds, d.wrs, d.obs, d.bM, d.dJ, fun t h1 h2 h3 => by
  obtain ⟨t', e, k⟩ := d.rR t h1 h2 h3
  exact ⟨t', GD.2 ⟨n, e⟩, k⟩, d.orc, d.uF⟩
noncomputable def aX (E : Env) : Rec := fun fn rnd c tm => ⟨wF E fn rnd c tm, TZ⟩
theorem oH {fn rnd c tm s r s'} : (aX E fn rnd c tm).run s = .ok r s' ↔ ∃ n, (jI E n fn rnd c tm).run s = .ok r s' := GD
theorem EM : ∀ L : List Use, (∀ u ∈ L, u.In (aX E)) → ∃ n, ∀ u ∈ L, u.In (jI E n) := by
 intro L
 induction L with
 | nil => intro _; exact ⟨0, fun _ h => by cases h⟩
 | cons u L ih =>
  intro h
  obtain ⟨n, hn⟩ := ih fun v hv => h v (List.mem_cons.2 (.inr hv))
  obtain ⟨m, hm⟩ := oH.1 (h u (List.mem_cons.2 (.inl rfl)))
  refine ⟨max n m, fun v hv => ?_⟩
  rcases List.mem_cons.1 hv with rfl | hv
  ·exact rM (Nat.le_max_right n m) hm
  ·exact rM (Nat.le_max_left n m) (hn v hv)
theorem fY.fuel {α : Type} {X : Rec → M α} (hX : fY X) {s a s'} (h : (X (aX E)).run s = .ok a s') : ∃ n, (X (jI E n)).run s = .ok a s' := by
 obtain ⟨L, q, r⟩ := hX.out _ _ _ _ h
 obtain ⟨n, hn⟩ := EM L q
 exact ⟨n, r _ hn⟩
theorem D5 {fn rnd c tm s r s'} (h : (step E (aX E) fn rnd c tm).run s = .ok r s') : (aX E fn rnd c tm).run s = .ok r s' := by
 obtain ⟨n, hn⟩ := (vA fn rnd c tm).fuel h
 exact oH.2 ⟨n + 1, hn⟩
theorem pA : mH E.P (aX E) := by
 intro fn rnd c tm e tm' s s' h
 obtain ⟨n, hn⟩ := oH.1 h
 exact xR n fn rnd c tm e tm' s s' hn
end Go.Am
set_option linter.unusedSimpArgs false
set_option linter.unusedVariables false
namespace Go.Am
open Go
abbrev Hp := Nat → Option Blk
def upd (h : Hp) (i : Nat) (b : Option Blk) : Hp := fun j => if j = i then b else h j
theorem bE (h : Hp) (i : Nat) (b : Option Blk) : upd h i b i = b := by simp [upd]
theorem aP (h : Hp) {i j : Nat} (b : Option Blk) (hn : j ≠ i) : upd h i b j = h j := by simp [upd, hn]
structure At (s : St) (h : Hp) (n : Nat) : Prop where
 hp : s.heap.get = h
 nx : s.next = n
 oc : s.orc = none
structure wB {α : Type} (m : M α) (s : St) (a : α) (s' : St) : Prop where
 run : m.run s = .ok a s'
 obs : ∃ o, s'.obs = o ++ s.obs ∧ o.all id = true
 oc : s'.orc = none
def at0 (h : Hp) (n : Nat) : St := { heap := .fn h, next := n, rds := [], wrs := [], obs := [], orc := none }
theorem lH (h : Hp) (n : Nat) : At (at0 h n) h n := ⟨rfl, rfl, rfl⟩
def Wp {α : Type} (m : M α) (h : Hp) (n : Nat) (Q : α → Hp → Nat → Prop) : Prop :=
 ∃ s a s', At s h n ∧ wB m s a s' ∧ Q a s'.heap.get s'.next
theorem DL {α : Type} {m : M α} {h : Hp} {n : Nat} {Q : α → Hp → Nat → Prop} (hw : Wp m h n Q) {t : St} (ht : At t h n) : ∃ a t', wB m t a t' ∧ Q a t'.heap.get t'.next := by
 obtain ⟨s, a, s', hs, he, hq⟩ := hw
 obtain ⟨r, w, o, d⟩ := m.loc _ _ _ he.run
 have hh : t.heap.get = s.heap.get := by rw [ht.hp, hs.hp]
 obtain ⟨t', e, hn, ho, hr, hw, hob, hg, hk⟩ := d.rR t (by rw [ht.nx, hs.nx]) (by rw [ht.oc, hs.oc]) (fun id _ => by rw [hh])
 have hget : t'.heap.get = s'.heap.get := by
  funext id
  by_cases hc : id ∈ w ∨ New s s' id
  ·exact hg id hc
  ·simp only [not_or] at hc
   rw [hk id hc.1 hc.2, hh, d.bM id hc.1 hc.2]
 refine ⟨a, t', ⟨e, ⟨o, hob, ?_⟩, by rw [ho, he.oc]⟩, by rw [hget, hn]; exact hq⟩
 obtain ⟨o2, h1, h2⟩ := he.obs
 rw [d.obs] at h1
 rw [List.append_cancel_right h1]
 exact h2
theorem fE {α : Type} {m : M α} {h : Hp} {n : Nat} {Q : α → Hp → Nat → Prop} : Wp m h n Q ↔ ∃ a s', wB m (at0 h n) a s' ∧ Q a s'.heap.get s'.next :=
 ⟨fun hw => DL hw (lH h n), fun ⟨a, s', he, hq⟩ => ⟨_, a, s', lH h n, he, hq⟩⟩
theorem wB.trans {α β : Type} {m : M α} {f : α → M β} {s s1 s2 : St} {a : α} {b : β} (h1 : wB m s a s1) (h2 : wB (f a) s1 b s2) : wB (m.bind f) s b s2 := by
 refine ⟨by simp only [M.bind, lG, h1.run, h2.run], ?_, h2.oc⟩
 obtain ⟨o1, e1, q1⟩ := h1.obs
 obtain ⟨o2, e2, q2⟩ := h2.obs
 exact ⟨o2 ++ o1, by rw [e2, e1, List.append_assoc], by rw [List.all_append, q1, q2]; rfl⟩
theorem M.ext' {α : Type} {m m' : M α} (h : ∀ s, m.run s = m'.run s) : m = m' := by
 cases m with | mk r l => cases m' with | mk r' l' =>
  have : r = r' := funext h
  subst this; rfl
theorem aI {α β : Type} (a : α) (f : α → M β) : (M.pure a).bind f = f a := M.ext' fun s => rfl
theorem G3 {α β : Type} (w : String) (f : α → M β) : (bJ w : M α).bind f = bJ w := M.ext' fun s => rfl
theorem bind_assoc {α β γ : Type} (m : M α) (f : α → M β) (g : β → M γ) : (m.bind f).bind g = m.bind fun a => (f a).bind g := M.ext' fun s => by
 simp only [M.bind, lG]
 cases m.run s <;> rfl
theorem cG {α : Type} {m : M α} {h : Hp} {n : Nat} {Q Q' : α → Hp → Nat → Prop} (hw : Wp m h n Q) (hq : ∀ a h' n', Q a h' n' → Q' a h' n') : Wp m h n Q' := by
 obtain ⟨s, a, s', hs, he, hh⟩ := hw
 exact ⟨s, a, s', hs, he, hq _ _ _ hh⟩
theorem DK {α β : Type} {m : M α} {f : α → M β} {h : Hp} {n : Nat} {Q : β → Hp → Nat → Prop} (hw : Wp m h n (fun a h' n' => Wp (f a) h' n' Q)) : Wp (m.bind f) h n Q := by
 obtain ⟨s, a, s1, hs, he, hq⟩ := hw
 obtain ⟨b, s2, he2, hq2⟩ := DL hq ⟨rfl, rfl, he.oc⟩
 exact ⟨s, b, s2, hs, he.trans he2, hq2⟩
theorem aS {α : Type} {a : α} {h : Hp} {n : Nat} {Q : α → Hp → Nat → Prop} : Wp (M.pure a) h n Q ↔ Q a h n := by
 rw [fE]
 constructor
 ·rintro ⟨a', s', he, hq⟩
  have h0 := he.run
  simp only [M.pure] at h0
  injection h0 with h1 h2
  subst h1; subst h2
  exact hq
 ·intro hq
  exact ⟨a, at0 h n, ⟨rfl, ⟨[], rfl, rfl⟩, rfl⟩, hq⟩
theorem KW {α : Type} {w : String} {h : Hp} {n : Nat} {Q : α → Hp → Nat → Prop} : Wp (bJ w) h n Q ↔ False := by
 rw [fE]
 refine ⟨?_, False.elim⟩
 rintro ⟨a', s', he, hq⟩
 cases he.run
theorem wB.xE {α β : Type} {m : M α} {f : α → M β} {s s1 s2 : St} {a : α} {b : β} (h1 : m.run s = .ok a s1) (h2 : (f a).run s1 = .ok b s2) (h : ∃ o, s2.obs = o ++ s.obs ∧ o.all id = true) :
  (∃ o, s1.obs = o ++ s.obs ∧ o.all id = true) ∧ ∃ o, s2.obs = o ++ s1.obs ∧ o.all id = true := by
 obtain ⟨_, _, o1, d1⟩ := m.loc _ _ _ h1
 obtain ⟨_, _, o2, d2⟩ := (f a).loc _ _ _ h2
 obtain ⟨o, e, q⟩ := h
 have : o = o2 ++ o1 := by
  have e2 := d2.obs
  rw [d1.obs, ← List.append_assoc, e] at e2
  exact List.append_cancel_right e2
 subst this
 rw [List.all_append, Bool.and_eq_true] at q
 exact ⟨⟨o1, d1.obs, q.2⟩, ⟨o2, d2.obs, q.1⟩⟩
theorem oQ {α β : Type} {m : M α} {f : α → M β} {h h1 : Hp} {n n1 : Nat} {Q : β → Hp → Nat → Prop} {a : α} {s1 : St} (hr : m.run (at0 h n) = .ok a s1) (h1e : s1.heap.get = h1) (hn1 : s1.next = n1) (ho : s1.orc = none) :
  Wp (m.bind f) h n Q ↔ s1.obs.all id = true ∧ Wp (f a) h1 n1 Q := by
 constructor
 ·intro hw
  obtain ⟨b, s2, he, hq⟩ := fE.1 hw
  obtain ⟨a', s1', e1, e2⟩ := M.aK he.run
  rw [hr] at e1
  injection e1 with q1 q2
  subst q1; subst q2
  obtain ⟨⟨o, k1, k2⟩, hob2⟩ := wB.xE hr e2 he.obs
  refine ⟨?_, s1, b, s2, ⟨h1e, hn1, ho⟩, ⟨e2, hob2, he.oc⟩, hq⟩
  rw [k1]
  simpa [at0] using k2
 ·rintro ⟨hob, hw⟩
  obtain ⟨b, s2, he, hq⟩ := DL hw ⟨h1e, hn1, ho⟩
  exact ⟨at0 h n, b, s2, lH h n, (wB.trans (m := m) (f := f) ⟨hr, ⟨s1.obs, by simp [at0], hob⟩, ho⟩ he), hq⟩
theorem dG {α β : Type} {m : M α} {f : α → M β} {h : Hp} {n : Nat} {Q : β → Hp → Nat → Prop} : Wp (m.bind f) h n Q ↔ Wp m h n fun a h' n' => Wp (f a) h' n' Q := by
 refine ⟨fun hw => ?_, DK⟩
 obtain ⟨b, s2, he, hq⟩ := fE.1 hw
 obtain ⟨a, s1, e1, e2⟩ := M.aK he.run
 obtain ⟨hob1, hob2⟩ := wB.xE e1 e2 he.obs
 obtain ⟨_, _, _, d⟩ := m.loc _ _ _ e1
 have ho := d.orc rfl
 exact ⟨_, a, s1, lH h n, ⟨e1, hob1, ho⟩, s1, b, s2, ⟨rfl, rfl, ho⟩, ⟨e2, hob2, he.oc⟩, hq⟩
theorem gC {α : Type} {id : Nat} {f : Blk → M α} {h : Hp} {n : Nat} {Q : α → Hp → Nat → Prop} : Wp ((fX id).bind f) h n Q ↔ ∃ b, h id = some b ∧ Wp (f b) h n Q := by
 cases hg : h id with
 | none =>
  refine ⟨fun hw => ?_, fun ⟨b, e, _⟩ => by cases e⟩
  obtain ⟨b, s2, he, hq⟩ := fE.1 hw
  obtain ⟨a', s1', e1, e2⟩ := M.aK he.run
  simp only [fX, z7, at0, Tr.get, hg] at e1
  cases e1
 | some b =>
  have hr : (fX id).run (at0 h n) = .ok b { at0 h n with rds := id :: (at0 h n).rds } := by simp only [fX, z7, at0, Tr.get, hg]
  rw [oQ hr rfl rfl rfl]
  constructor
  ·intro ⟨_, hw⟩; exact ⟨b, rfl, hw⟩
  ·rintro ⟨b', e, hw⟩
   injection e with e
   subst e
   exact ⟨rfl, hw⟩
theorem DJ {α : Type} {id : Nat} {b : Option Blk} {f : Unit → M α} {h : Hp} {n : Nat} {Q : α → Hp → Nat → Prop} : Wp ((⟨sY id b, tP id b⟩ : M Unit).bind f) h n Q ↔ h id ≠ none ∧ Wp (f ()) (upd h id b) n Q := by
 cases hg : h id with
 | none =>
  refine ⟨fun hw => ?_, fun ⟨e, _⟩ => absurd rfl e⟩
  obtain ⟨c, s2, he, hq⟩ := fE.1 hw
  obtain ⟨a', s1', e1, e2⟩ := M.aK he.run
  simp only [sY, at0, Tr.get, hg] at e1
  cases e1
 | some b0 =>
  have hr : (⟨sY id b, tP id b⟩ : M Unit).run (at0 h n) = .ok () { at0 h n with heap := (at0 h n).heap.put id b, wrs := id :: (at0 h n).wrs } := by simp only [sY, at0, Tr.get, hg]
  rw [oQ hr (h1 := upd h id b) (n1 := n) (funext fun j => by rw [Tr.mR]; rfl) rfl rfl]
  constructor
  ·intro ⟨_, hw⟩; exact ⟨by simp, hw⟩
  ·rintro ⟨_, hw⟩
   exact ⟨rfl, hw⟩
theorem mI {α : Type} {id : Nat} {b : Blk} {f : Unit → M α} {h : Hp} {n : Nat} {Q : α → Hp → Nat → Prop} : Wp ((jK id b).bind f) h n Q ↔ h id ≠ none ∧ Wp (f ()) (upd h id (some b)) n Q := DJ
theorem y7 {α : Type} {id : Nat} {f : Unit → M α} {h : Hp} {n : Nat} {Q : α → Hp → Nat → Prop} : Wp ((CT id).bind f) h n Q ↔ h id ≠ none ∧ Wp (f ()) (upd h id none) n Q := DJ
theorem iT {α : Type} {b : Blk} {f : Nat → M α} {h : Hp} {n : Nat} {Q : α → Hp → Nat → Prop} : Wp ((qC b).bind f) h n Q ↔ Wp (f n) (upd h n (some b)) (n + 1) Q := by
 have hr : (qC b).run (at0 h n) = .ok n { at0 h n with heap := (at0 h n).heap.put n (some b), next := n + 1 } := rfl
 rw [oQ hr (h1 := upd h n (some b)) (n1 := n + 1) (funext fun j => by rw [Tr.mR]; rfl) rfl rfl]
 exact ⟨fun h => h.2, fun h => ⟨rfl, h⟩⟩
theorem fQ {α : Type} {b : Bool} {f : Unit → M α} {h : Hp} {n : Nat} {Q : α → Hp → Nat → Prop} : Wp ((ob b).bind f) h n Q ↔ b = true ∧ Wp (f ()) h n Q := by
 cases b with
 | true =>
  have hr : (ob true).run (at0 h n) = .ok () (at0 h n) := rfl
  rw [oQ hr (h1 := h) (n1 := n) rfl rfl rfl]
  simp [at0]
 | false =>
  have hr : (ob false).run (at0 h n) = .ok () { at0 h n with obs := false :: (at0 h n).obs } := rfl
  rw [oQ hr (h1 := h) (n1 := n) rfl rfl rfl]
  simp [at0]
theorem gV {α : Type} {b : Bool} {f : Bool → M α} {h : Hp} {n : Nat} {Q : α → Hp → Nat → Prop} : Wp ((ask b).bind f) h n Q ↔ Wp (f b) h n Q := by
 have hr : (ask b).run (at0 h n) = .ok b (at0 h n) := rfl
 rw [oQ hr (h1 := h) (n1 := n) rfl rfl rfl]
 exact ⟨fun h => h.2, fun h => ⟨rfl, h⟩⟩
theorem sP {α : Type} (m : M α) : m.bind M.pure = m := M.ext' fun s => by
 simp only [M.bind, lG, M.pure]
 cases m.run s <;> rfl
theorem KV {b : Blk} {h : Hp} {n : Nat} {Q : Nat → Hp → Nat → Prop} : Wp (qC b) h n Q ↔ Q n (upd h n (some b)) (n + 1) := by
 rw [← sP (qC b), iT]; simp only [aS]
theorem NU {b : Bool} {h : Hp} {n : Nat} {Q : Unit → Hp → Nat → Prop} : Wp (ob b) h n Q ↔ b = true ∧ Q () h n := by
 rw [← sP (ob b), fQ]; simp only [aS]
theorem DM {b : Bool} {h : Hp} {n : Nat} {Q : Bool → Hp → Nat → Prop} : Wp (ask b) h n Q ↔ Q b h n := by
 rw [← sP (ask b), gV]; simp only [aS]
theorem KT {α : Type} {m : M α} {h h1 : Hp} {n n1 : Nat} {a : α} (hw : Wp m h n fun a' h' n' => a' = a ∧ h' = h1 ∧ n' = n1) {Q : α → Hp → Nat → Prop} (hq : Q a h1 n1) : Wp m h n Q :=
 cG hw fun _ _ _ ⟨e1, e2, e3⟩ => by subst e1; subst e2; subst e3; exact hq
theorem Wp.next {α : Type} {m : M α} {h : Hp} {n : Nat} {Q : α → Hp → Nat → Prop} (hw : Wp m h n Q) : Wp m h n fun a h' n' => Q a h' n' ∧ n ≤ n' := by
 obtain ⟨s, a, s', hs, he, hq⟩ := hw
 obtain ⟨_, _, _, d⟩ := m.loc _ _ _ he.run
 exact ⟨s, a, s', hs, he, hq, by rw [← hs.nx]; exact d.next⟩
end Go.Am
set_option linter.unusedSimpArgs false
set_option linter.unusedVariables false
namespace Go.Am
open Go Go.RowKit
inductive Kf where
 | seq (c : Code)
 | block (id : Nat)
 | loop (c : Code)
abbrev dM := gH → List aA → Hp → Nat → Prop
variable {E : Env}
def dR (E : Env) (fn : FuncId) (rnd : Option Nat) (Q : dM) : List Kf → gH → List aA → Hp → Nat → Prop
 | [], e, tm, h, n => Q e tm h n
 | .seq c :: ks, e, tm, h, n => match e with
  | .normal => Wp (aX E fn rnd c tm) h n fun r h' n' => dR E fn rnd Q ks r.1 r.2 h' n'
  | e => dR E fn rnd Q ks e tm h n
 | .block id :: ks, e, tm, h, n => match e with
  | .exit j => match j.beq id with
   | true => dR E fn rnd Q ks .normal tm h n
   | false => dR E fn rnd Q ks (.exit j) tm h n
  | e => dR E fn rnd Q ks e tm h n
 | .loop c :: ks, e, tm, h, n => match e with
  | .normal => Wp (aX E fn rnd (.loop c) tm) h n fun r h' n' => dR E fn rnd Q ks r.1 r.2 h' n'
  | e => dR E fn rnd Q ks e tm h n
def Run (E : Env) (fn : FuncId) (rnd : Option Nat) (Q : dM) (c : Code) (ks : List Kf) (tm : List aA) (h : Hp) (n : Nat) : Prop :=
 Wp (aX E fn rnd c tm) h n fun r h' n' => dR E fn rnd Q ks r.1 r.2 h' n'
def Ops (E : Env) (fn : FuncId) (rnd : Option Nat) (Q : dM) (ks : List Kf) (ops bM : List Oper) (tm : List aA) (h : Hp) (n : Nat) : Prop :=
 Wp (jY E (aX E) ops bM tm) h n fun tm h' n' => dR E fn rnd Q ks .normal (bQ E fn tm) h' n'
def OpV (E : Env) (fn : FuncId) (rnd : Option Nat) (Q : dM) (ks : List Kf) (ops bM : List Oper) (d : Option Tmp) (tm : List aA) (m : M aA) (h : Hp) (n : Nat) : Prop :=
 Wp m h n fun v h' n' => Ops E fn rnd Q ks ops bM (cE tm d v) h' n'
def OpG (E : Env) (fn : FuncId) (rnd : Option Nat) (Q : dM) (ks : List Kf) (ops bM : List Oper) (d : Option Tmp) (tm : List aA) (o : Op) (want : Bool) (v : aA) (h : Hp) (n : Nat) : Prop :=
 Wp (kF want v) h n fun w h' n' => match w with
  | true => OpV E fn rnd Q ks ops bM d tm (execOp E (aX E) tm o) h' n'
  | false => Ops E fn rnd Q ks ops bM (cE tm d undef) h' n'
def If (E : Env) (fn : FuncId) (rnd : Option Nat) (Q : dM) (v : aA) (a b : Code) (ks : List Kf) (tm : List aA) (h : Hp) (n : Nat) : Prop :=
 Wp (branch v) h n fun t h' n' => match t with
  | true => Run E fn rnd Q a ks tm h' n'
  | false => Run E fn rnd Q b ks tm h' n'
variable {fn : FuncId} {rnd : Option Nat} {Q : dM} {ks : List Kf} {tm : List aA} {h : Hp} {n : Nat}
theorem xQ {c : Code} {s : St} {r : gH × List aA} {s' : St} : (aX E fn rnd c tm).run s = .ok r s' ↔ (step E (aX E) fn rnd c tm).run s = .ok r s' := by
 refine ⟨fun hw => ?_, D5⟩
 obtain ⟨k, hk⟩ := oH.1 hw
 cases k with
 | zero => cases hk
 | succ k =>
  obtain ⟨L, q, hr⟩ := (vA fn rnd c tm).out (jI E k) s r s' hk
  exact hr (aX E) fun u hu => oH.2 ⟨k, q u hu⟩
theorem j0 {c : Code} {Q : gH × List aA → Hp → Nat → Prop} : Wp (aX E fn rnd c tm) h n Q ↔ Wp (step E (aX E) fn rnd c tm) h n Q := by
 constructor
 ·rintro ⟨s, a, s', h1, h2, h3⟩
  exact ⟨s, a, s', h1, ⟨xQ.1 h2.run, h2.obs, h2.oc⟩, h3⟩
 ·rintro ⟨s, a, s', h1, h2, h3⟩
  exact ⟨s, a, s', h1, ⟨xQ.2 h2.run, h2.obs, h2.oc⟩, h3⟩
theorem u0 {α : Type} {m : M α} {Q Q' : α → Hp → Nat → Prop} (hq : ∀ a h' n', Q a h' n' ↔ Q' a h' n') : Wp m h n Q ↔ Wp m h n Q' :=
 ⟨fun hw => cG hw fun a h' n' => (hq a h' n').1, fun hw => cG hw fun a h' n' => (hq a h' n').2⟩
theorem GQ : Run E fn rnd Q .skip ks tm h n ↔ dR E fn rnd Q ks .normal tm h n := by
 unfold Run; rw [j0]; simp only [step, aS]
theorem EV {l : Nat} : Run E fn rnd Q (.label l) ks tm h n ↔ dR E fn rnd Q ks .normal tm h n := by
 unfold Run; rw [j0]; simp only [step, aS]
theorem GR {l : Nat} : Run E fn rnd Q (.exit l) ks tm h n ↔ dR E fn rnd Q ks (.exit l) tm h n := by
 unfold Run; rw [j0]; simp only [step, aS]
theorem LG : Run E fn rnd Q .ret ks tm h n ↔ dR E fn rnd Q ks .ret tm h n := by
 unfold Run; rw [j0]; simp only [step, aS]
theorem LF {a b : Code} : Run E fn rnd Q (.seq a b) ks tm h n ↔ Run E fn rnd Q a (.seq b :: ks) tm h n := by
 unfold Run; rw [j0]; simp only [step, dG]
 refine u0 fun r h' n' => ?_
 obtain ⟨e, tm'⟩ := r
 cases e <;> simp only [dR, aS]
theorem EU {a : Code} : Run E fn rnd Q (.scope a) ks tm h n ↔ Run E fn rnd Q a ks tm h n := by
 unfold Run; rw [j0]; simp only [step]
theorem EW {id : Nat} {a : Code} (hn : nV E.qK fn id = true) : Run E fn rnd Q (.block id a) ks tm h n ↔ Run E fn rnd Q a (.block id :: ks) tm h n := by
 unfold Run; rw [j0]; simp only [step, qI hn, dG]
 refine u0 fun r h' n' => ?_
 obtain ⟨e, tm'⟩ := r
 cases e with
 | normal => simp only [dR, aS]
 | ret => simp only [dR, aS]
 | exit j => simp only [dR]; cases j.beq id <;> simp only [aS]
theorem bP {a : Code} : Run E fn rnd Q (.loop a) ks tm h n ↔ Run E fn rnd Q a (.loop a :: ks) tm h n := by
 unfold Run; rw [j0]; simp only [step, dG]
 refine u0 fun r h' n' => ?_
 obtain ⟨e, tm'⟩ := r
 cases e <;> simp only [dR, aS]
theorem GS {c : Operand} {a b : Code} : Run E fn rnd Q (.cond c a b) ks tm h n ↔ If E fn rnd Q (opd tm c) a b ks tm h n := by
 unfold Run If; rw [j0]; simp only [step, dG]
 refine u0 fun t h' n' => ?_
 cases t <;> rfl
theorem C3 {id : Nat} {ops : Array Oper} : Run E fn rnd Q (.region id ops false) ks tm h n ↔ Ops E fn rnd Q ks ops.toList ops.toList tm h n := by
 unfold Run Ops; rw [j0]; simp only [step, dG, aS]
theorem if_true {a b : Code} : If E fn rnd Q (.bool true) a b ks tm h n ↔ Run E fn rnd Q a ks tm h n := by
 simp only [If, branch, DM]
theorem if_false {a b : Code} : If E fn rnd Q (.bool false) a b ks tm h n ↔ Run E fn rnd Q b ks tm h n := by
 simp only [If, branch, DM]
theorem IS {a b : Code} : If E fn rnd Q (.gG true) a b ks tm h n ↔ Run E fn rnd Q a ks tm h n := by
 simp only [If, branch, aS]
theorem FL {a b : Code} : If E fn rnd Q (.gG false) a b ks tm h n ↔ Run E fn rnd Q b ks tm h n := by
 simp only [If, branch, aS]
theorem JJ {c : Code} : dR E fn rnd Q (.seq c :: ks) .normal tm h n ↔ Run E fn rnd Q c ks tm h n := Iff.rfl
theorem zH {c : Code} : dR E fn rnd Q (.seq c :: ks) .ret tm h n ↔ dR E fn rnd Q ks .ret tm h n := Iff.rfl
theorem wQ {c : Code} {j : Nat} : dR E fn rnd Q (.seq c :: ks) (.exit j) tm h n ↔ dR E fn rnd Q ks (.exit j) tm h n := Iff.rfl
theorem DA {i : Nat} : dR E fn rnd Q (.block i :: ks) .normal tm h n ↔ dR E fn rnd Q ks .normal tm h n := Iff.rfl
theorem vF {i : Nat} : dR E fn rnd Q (.block i :: ks) .ret tm h n ↔ dR E fn rnd Q ks .ret tm h n := Iff.rfl
theorem tD {i : Nat} : dR E fn rnd Q (.block i :: ks) (.exit i) tm h n ↔ dR E fn rnd Q ks .normal tm h n := by
 simp only [dR, Nat.beq_refl]
theorem FY {c : Code} : dR E fn rnd Q (.loop c :: ks) .normal tm h n ↔ Run E fn rnd Q (.loop c) ks tm h n := Iff.rfl
theorem wR {c : Code} : dR E fn rnd Q (.loop c :: ks) .ret tm h n ↔ dR E fn rnd Q ks .ret tm h n := Iff.rfl
theorem vE {c : Code} {j : Nat} : dR E fn rnd Q (.loop c :: ks) (.exit j) tm h n ↔ dR E fn rnd Q ks (.exit j) tm h n := Iff.rfl
theorem JK {e : gH} : dR E fn rnd Q [] e tm h n ↔ Q e tm h n := Iff.rfl
variable {ops bM : List Oper} {d : Option Tmp}
theorem LS : Ops E fn rnd Q ks ops [] tm h n ↔ dR E fn rnd Q ks .normal (bQ E fn tm) h n := by
 unfold Ops; simp only [jY, aS]
theorem HT {op : Op} {ty : TypeId} {pos : String} {af : Array Edge} : Ops E fn rnd Q ks ops (⟨d, op, ty, pos, af, none⟩ :: bM) tm h n ↔ OpV E fn rnd Q ks ops bM d tm (execOp E (aX E) tm op) h n := by
 unfold Ops OpV; simp only [jY, FA, opV, wanted, aI, dG, aS]; rfl
def SJ (E : Env) (fn : FuncId) (rnd : Option Nat) (Q : dM) (ks : List Kf) (ops bM : List Oper) (d : Option Tmp) (tm : List aA) (o : Op) (want : Bool) (g : Option Oper) (h : Hp) (n : Nat) : Prop :=
 match g.bind (·.dst) with
 | some g => OpG E fn rnd Q ks ops bM d tm o want (nth tm g undef) h n
 | none => Ops E fn rnd Q ks ops bM (cE tm d undef) h n
theorem F6 {op : Op} {ty : TypeId} {pos : String} {af : Array Edge} {j : Nat} {want : Bool} :
  Ops E fn rnd Q ks ops (⟨d, op, ty, pos, af, some (j, want)⟩ :: bM) tm h n ↔ SJ E fn rnd Q ks ops bM d tm op want ops[j]? h n := by
 unfold SJ
 cases hg : (ops[j]?).bind (·.dst) with
 | none =>
  unfold Ops; simp only [jY, FA, opV, wanted, hg, dG, aS]
 | some g =>
  unfold Ops OpG; simp only [jY, FA, opV, wanted, hg, dG, aS]
  refine u0 fun w h' n' => ?_
  cases w <;> simp only [aS, Ops, OpV]
theorem F7 {op : Op} {want : Bool} {g : Tmp} {o2 : Op} {ty : TypeId} {pos : String} {af : Array Edge} {gg : Option (Nat × Bool)} :
  SJ E fn rnd Q ks ops bM d tm op want (some ⟨some g, o2, ty, pos, af, gg⟩) h n ↔ OpG E fn rnd Q ks ops bM d tm op want (nth tm g undef) h n := Iff.rfl
theorem HU {op : Op} {want t : Bool} : OpG E fn rnd Q ks ops bM d tm op want (.bool t) h n ↔ OpG E fn rnd Q ks ops bM d tm op want (.gG t) h n := by
 simp only [OpG, kF, gV, aS]
theorem PA {op : Op} : OpG E fn rnd Q ks ops bM d tm op true (.gG true) h n ↔ OpV E fn rnd Q ks ops bM d tm (execOp E (aX E) tm op) h n := by
 simp only [OpG, kF, aS]; rfl
theorem PD {op : Op} : OpG E fn rnd Q ks ops bM d tm op false (.gG false) h n ↔ OpV E fn rnd Q ks ops bM d tm (execOp E (aX E) tm op) h n := by
 simp only [OpG, kF, aS]; rfl
theorem PB {op : Op} : OpG E fn rnd Q ks ops bM d tm op true (.gG false) h n ↔ Ops E fn rnd Q ks ops bM (cE tm d undef) h n := by
 simp only [OpG, kF, aS]; rfl
theorem PC {op : Op} : OpG E fn rnd Q ks ops bM d tm op false (.gG true) h n ↔ Ops E fn rnd Q ks ops bM (cE tm d undef) h n := by
 simp only [OpG, kF, aS]; rfl
theorem xD {op : Op} {want : Bool} {l : List aA} : OpG E fn rnd Q ks ops bM d tm op want (.tup l) h n ↔ Ops E fn rnd Q ks ops bM (cE tm d undef) h n := by
 simp only [OpG, kF, aS]
theorem rA {v : aA} : OpV E fn rnd Q ks ops bM d tm (M.pure v) h n ↔ Ops E fn rnd Q ks ops bM (cE tm d v) h n := by
 simp only [OpV, aS]
theorem HR {w : String} : OpV E fn rnd Q ks ops bM d tm (bJ w) h n ↔ False := by
 simp only [OpV, KW]
theorem LQ {id : Nat} {f : Blk → M aA} : OpV E fn rnd Q ks ops bM d tm ((fX id).bind f) h n ↔ ∃ b, h id = some b ∧ OpV E fn rnd Q ks ops bM d tm (f b) h n := by
 simp only [OpV, gC]
theorem LP {id : Nat} {b : Blk} {f : Unit → M aA} : OpV E fn rnd Q ks ops bM d tm ((jK id b).bind f) h n ↔ h id ≠ none ∧ OpV E fn rnd Q ks ops bM d tm (f ()) (upd h id (some b)) n := by
 simp only [OpV, mI]
theorem HQ {id : Nat} {f : Unit → M aA} : OpV E fn rnd Q ks ops bM d tm ((CT id).bind f) h n ↔ h id ≠ none ∧ OpV E fn rnd Q ks ops bM d tm (f ()) (upd h id none) n := by
 simp only [OpV, y7]
theorem tL {b : Blk} {f : Nat → M aA} : OpV E fn rnd Q ks ops bM d tm ((qC b).bind f) h n ↔ OpV E fn rnd Q ks ops bM d tm (f n) (upd h n (some b)) (n + 1) := by
 simp only [OpV, iT]
theorem yM {b : Bool} {f : Unit → M aA} : OpV E fn rnd Q ks ops bM d tm ((ob b).bind f) h n ↔ b = true ∧ OpV E fn rnd Q ks ops bM d tm (f ()) h n := by
 simp only [OpV, fQ]
theorem LR {b : Bool} {f : Bool → M aA} : OpV E fn rnd Q ks ops bM d tm ((ask b).bind f) h n ↔ OpV E fn rnd Q ks ops bM d tm (f b) h n := by
 simp only [OpV, gV]
theorem HS {m : M aA} {Q1 : aA → Hp → Nat → Prop} (hw : Wp m h n Q1) (hq : ∀ v h' n', n ≤ n' → Q1 v h' n' → Ops E fn rnd Q ks ops bM (cE tm d v) h' n') : OpV E fn rnd Q ks ops bM d tm m h n :=
 cG hw.next fun a h' n' hh => hq a h' n' hh.2 hh.1
theorem eU {m : M aA} {v : aA} {h1 : Hp} {n1 : Nat} (hw : Wp m h n fun v' h' n' => v' = v ∧ h' = h1 ∧ n' = n1) (hq : Ops E fn rnd Q ks ops bM (cE tm d v) h1 n1) : OpV E fn rnd Q ks ops bM d tm m h n :=
 KT hw hq
theorem bG {f : FuncId} {args : List aA} {i : FI} {Q : aA → Hp → Nat → Prop} (hf : (E.funcs.find f).f.beq f = true) (hi : (E.funcs.find f).i = i)
  (hr : Run E f none (fun e tm h' n' => (match e with | .exit _ => False | _ => True) ∧ Wp (eG E tm i.results) h' n' Q) i.body [] (args ++ List.replicate (i.ntmps - args.length) undef) h n) :
  Wp (bO E (aX E) f args) h n Q := by
 unfold bO
 rw [hf]
 simp only [hi, dG]
 refine cG hr fun r h' n' hq => ?_
 obtain ⟨e, tm'⟩ := r
 simp only [dR] at hq
 cases e with
 | exit j => exact hq.1.elim
 | normal => exact hq.2
 | ret => exact hq.2
theorem calls_of {f : FuncId} {args : List aA} {xs : Array Value} {w : World} {Q : aA → Hp → Nat → Prop} (hw : Wp (bO E (aX E) f args) (fun _ => none) 0 Q) (hx : RL (fun _ => none) (oldMem w) args xs) :
  Calls E.P f xs w fun e w' => ∃ v h n x ρ', Q v h n ∧ e = .returned x ∧ R ρ' (oldMem w) v x ∧ Below w.heap.size w w' := by
 obtain ⟨v, s', he, hq⟩ := fE.1 hw
 obtain ⟨k, hk⟩ := (xO f args).fuel he.run
 have ho : bU s' := by
  obtain ⟨o, e1, e2⟩ := he.obs
  unfold bU
  rw [e1]
  simpa [at0] using e2
 refine (MV hk ho (fun _ => rfl) hx).mono fun e w' hh => ?_
 obtain ⟨x, ρ', h1, h2, h3⟩ := hh
 exact ⟨v, _, _, x, ρ', hq, h1, h2, h3⟩
end Go.Am
set_option linter.unusedSimpArgs false
set_option linter.unusedVariables false
set_option linter.defProp false
namespace Go.Am
open Go
variable {E : Env} {fn : FuncId} {rnd : Option Nat} {Q : dM} {ks : List Kf} {tm : List aA} {h : Hp} {n : Nat} {ops bM : List Oper} {d : Option Tmp}
theorem tM {m : M aA} {h1 : Hp} {n1 : Nat} {v : aA} (hw : Wp m h n fun v' h' n' => v' = v ∧ h' = h1 ∧ n' = n1) :
  ∀ (E : Env) (fn : FuncId) (rnd : Option Nat) (Q : dM) (ks : List Kf) (ops bM : List Oper) (d : Option Tmp) (tm : List aA), OpV E fn rnd Q ks ops bM d tm m h n ↔ Ops E fn rnd Q ks ops bM (cE tm d v) h1 n1 := by
 intro E fn rnd Q ks ops bM d tm
 refine ⟨fun hq => ?_, fun hq => eU hw hq⟩
 obtain ⟨a, s', he, e1, e2, e3⟩ := fE.1 hw
 obtain ⟨a2, s2, he2, hq2⟩ := fE.1 hq
 have := he.run.symm.trans he2.run
 injection this with q1 q2
 subst q1; subst q2; subst e1; subst e2; subst e3
 exact hq2
theorem w64 {n : Int} (h1 : -9223372036854775808 ≤ n) (h2 : n ≤ 9223372036854775807) : IntKind.i64.wrap n = n := IntWalk.i64_in n ⟨h1, h2⟩
theorem WW {n : Int} (h1 : 0 ≤ n) (h2 : n ≤ 18446744073709551615) : IntKind.u64.wrap n = n := IntWalk.u64_in n ⟨h1, h2⟩
theorem nc0 : ((0 : Nat) : Int) = 0 := rfl
theorem nc1 : ((1 : Nat) : Int) = 1 := rfl
theorem cJ (a b : Int) : (a == b) = decide (a = b) := rfl
theorem cI (a b : Int) : (a != b) = decide (¬ a = b) := by by_cases h : a = b <;> simp [h]
theorem cH (a b : List UInt8) : (a == b) = decide (a = b) := by by_cases h : a = b <;> simp [h]
def cC := And.intro @LF (And.intro @C3 (And.intro @GQ (And.intro @EV (And.intro @GR (And.intro @LG (And.intro @EU (And.intro @EW (And.intro @GS
 (And.intro @if_true (And.intro @if_false (And.intro @IS (And.intro @FL (And.intro @JJ (And.intro @zH (And.intro @wQ (And.intro @DA (And.intro @vF
 (And.intro @tD (And.intro @FY (And.intro @wR (And.intro @vE (And.intro @JK (And.intro @LS (And.intro @HT (And.intro @F6 (And.intro @F7
 (And.intro @HU (And.intro @PA (And.intro @PD (And.intro @PB (And.intro @PC (And.intro @xD (And.intro @rA (And.intro @HR (And.intro @LQ (And.intro @LP
 (And.intro @HQ (And.intro @tL (And.intro @yM (And.intro @LR (And.intro @aI (And.intro @G3 @bind_assoc))))))))))))))))))))))))))))))))))))))))))
end Go.Am
set_option linter.unusedSimpArgs false
set_option linter.unusedVariables false
set_option linter.defProp false
namespace Go.Am
open Go Go.RowKit
variable {E : Env} {fn : FuncId} {rnd : Option Nat} {Q : dM} {ks : List Kf} {tm : List aA} {h : Hp} {n : Nat} {ops bM : List Oper} {d : Option Tmp}
theorem rl_list {ρ : Ren} {m : Mem} (l : List aA) (xs : Array Value) (hv : RV ρ m l xs.toList) : RL ρ m l xs := by
 have := hv.U0
 simpa using this
def u8 (b : UInt8) : aA := .int .u8 (b.toNat : Int)
inductive Bytes (h : Hp) : aA → List UInt8 → Prop
 | aT : Bytes h .aT []
 | isl (f : Nat → aA) (off : Nat) (l : List UInt8) (hf : ∀ j (hj : j < l.length), f (off + j) = u8 l[j]) : Bytes h (.isl f 1 off l.length) l
 | sl (id off : Nat) (cap : Option Nat) (c : bH) (e : TypeId) (l : List UInt8) (hh : h id = some (.row c e)) (hs : off + l.length ≤ c.size) (hc : ∀ j (hj : j < l.length), c.at (off + j) = u8 l[j]) : Bytes h (.sl id off l.length cap 1) l
theorem Bytes.len {v : aA} {l : List UInt8} (hb : Bytes h v l) : lenOf v = M.pure l.length := by
 cases hb <;> rfl
theorem Bytes.cP {v : aA} {l : List UInt8} (hb : Bytes h v l) {t : TypeId} {ts : List TypeId} {e : TypeId} (ht : und E t = M.pure (.slice e)) : cP E (t :: ts) v = M.pure (.int .i64 l.length) := by
 cases hb <;> simp only [Am.cP, ht, aI, lenOf, List.length_nil] <;> rfl
def eM (i : Nat) : aA → aA
 | .isl g sz off len => .ip g (off + len * sz) (off + i)
 | .sl id off _ _ _ => .ptr id (off + i)
 | v => v
theorem BF (f : Nat → aA) (off : Nat) : cellsOf f off 1 = [f off] := rfl
theorem bH.vW {xs : List aA} {i : Nat} (hi : i < xs.length) : (bH.l xs).at i = xs[i] := by
 show nth xs i .aB = xs[i]
 induction xs generalizing i with
 | nil => simp at hi
 | cons a xs ih =>
  cases i with
  | zero => rfl
  | succ i => simp only [nth, List.getElem_cons_succ]; exact ih (by simpa using hi)
theorem bH.qR {c : bH} {o : Nat} (ho : o < c.size) : c.sub o 1 = [c.at o] := by
 cases c with
 | f m g => rfl
 | l xs =>
  rw [bH.vW ho]
  show (xs.drop o).take 1 = [xs[o]]
  rw [List.drop_eq_getElem_cons ho]; rfl
theorem tZ (l : List UInt8) : (l.map u8).all oC = true := by
 induction l with
 | nil => rfl
 | cons a l ih => simp [u8, oC, ih]
theorem oS (l : List UInt8) : (l.map u8).map j4 = l := by
 induction l with
 | nil => rfl
 | cons a l ih => simp [u8, j4, ih]
theorem jS (f : Nat → aA) : ∀ (k off : Nat) (l : List aA), l.length = k → (∀ j (hj : j < l.length), f (off + j) = l[j]) → cellsOf f off k = l := by
 intro k
 induction k with
 | zero => intro off l hl _; cases l with | nil => rfl | cons a l => simp at hl
 | succ k ih =>
  intro off l hl hf
  cases l with
  | nil => simp at hl
  | cons a l =>
   have h0 := hf 0 (by simp)
   simp only [cellsOf, Nat.add_zero, List.getElem_cons_zero] at h0 ⊢
   rw [h0, ih (off + 1) l (by simpa using hl) (fun j hj => by
    have := hf (j + 1) (by simpa using hj)
    rw [List.getElem_cons_succ] at this
    rw [← this]; congr 1; omega)]
theorem bH.uB {c : bH} {off : Nat} {l : List aA} (hs : off + l.length ≤ c.size) (hc : ∀ j (hj : j < l.length), c.at (off + j) = l[j]) : c.sub off l.length = l := by
 cases c with
 | f m g => exact jS g _ off l rfl hc
 | l xs =>
  show (xs.drop off).take l.length = l
  apply List.ext_getElem
  ·simp [bH.size] at hs ⊢; omega
  ·intro j h1 h2
   rw [List.getElem_take, List.getElem_drop]
   have := hc j h2
   rw [bH.vW (by simp [bH.size] at hs; omega)] at this
   exact this
theorem Bytes.cells {α : Type} {v : aA} {l : List UInt8} (hb : Bytes h v l) {f : List aA → M α} {Q : α → Hp → Nat → Prop} : Wp ((cU 1 l.length v).bind f) h n Q ↔ Wp (f (l.map u8)) h n Q := by
 cases hb with
 | aT => simp only [cU, bind_assoc, aI, fQ, List.length_nil, List.map_nil]; simp
 | isl g off l hf =>
  simp only [cU, bL, bind_assoc, aI, fQ, Nat.mul_one, show (Nat.beq 1 1) = true from rfl]
  rw [jS g l.length off (l.map u8) (by simp) (fun j hj => by rw [hf j (by simpa using hj)]; simp)]
  simp
 | sl id off cap c e l hh hs hc =>
  simp only [cU, bL, bind_assoc, gC, hh, Option.some.injEq, exists_eq_left', cW, fQ, Nat.mul_one, show (Nat.beq 1 1) = true from rfl]
  have := bH.uB (c := c) (off := off) (l := l.map u8) (by simpa using hs) (fun j hj => by rw [hc j (by simpa using hj)]; simp)
  simp only [List.length_map] at this
  simp only [bind_assoc, fQ, aI, this]
  simp [hs]
theorem Bytes.str {v : aA} {l : List UInt8} (hb : Bytes h v l) {t t2 e : TypeId} (ht : und E t = M.pure (.slice e)) (h2 : und E t2 = M.pure .string) (he : und E e = M.pure (.int .u8)) :
  OpV E fn rnd Q ks ops bM d tm (convert E t t2 v) h n ↔ Ops E fn rnd Q ks ops bM (cE tm d (.str l)) h n := by
 have key : convert E t t2 v = lS E e v := by
  cases hb <;> simp only [convert, ht, h2, aI]
 rw [key]
 simp only [lS, he, aI, AP, hb.len, OpV]
 rw [hb.cells]
 simp only [fQ, tZ, true_and, aS, oS]
def Old (h h' : Hp) (n : Nat) : Prop := ∀ j, j < n → h' j = h j
def sR (n : Nat) : aA → Prop
 | .sl id _ _ _ _ => id < n
 | _ => True
theorem Old.refl (h : Hp) (n : Nat) : Old h h n := fun _ _ => rfl
theorem Old.trans {h1 h2 h3 : Hp} {n m : Nat} (a : Old h1 h2 n) (b : Old h2 h3 m) (hm : n ≤ m) : Old h1 h3 n := fun j hj => (b j (by omega)).trans (a j hj)
theorem sR.mono {n m : Nat} {v : aA} (hv : sR n v) (hm : n ≤ m) : sR m v := by
 cases v <;> simp only [sR] at hv ⊢ <;> omega
def byteOf (z : Int) : UInt8 := UInt8.ofNat z.toNat
theorem xW {z : Int} (hz : (Lit.int .u8 z).wf = true) : ((byteOf z).toNat : Int) = z := by
 simp only [Lit.wf, Bool.and_eq_true, decide_eq_true_eq] at hz
 have h1 : IntKind.u8.min = 0 := rfl
 have h2 : IntKind.u8.max = 255 := rfl
 rw [h1, h2] at hz
 unfold byteOf
 rw [UInt8.toNat_ofNat']
 have : z.toNat % 2 ^ 8 = z.toNat := Nat.mod_eq_of_lt (by omega)
 rw [this]; omega
structure wC (v : aA) (l : List UInt8) : Prop where
 bytes : ∀ h, Bytes h v l
 below : ∀ n, sR n v
end Go.Am
set_option linter.unusedSimpArgs false
set_option linter.unusedVariables false
set_option linter.defProp false
namespace Go.Am
open Go Go.RowKit
variable {E : Env} {fn : FuncId} {rnd : Option Nat} {Q : dM} {ks : List Kf} {tm : List aA} {h : Hp} {n : Nat} {ops bM : List Oper} {d : Option Tmp}
inductive Own (h : Hp) (n : Nat) (e : TypeId) (sz : Nat) : aA → Nat → List aA → Prop
 | nil : Own h n e sz .aT 0 []
 | sl (id cnt : Nat) (xs : List aA) (hid : id < n) (hh : h id = some (.row (.l xs) e)) (hl : xs.length = cnt * sz) : Own h n e sz (.sl id 0 cnt none sz) cnt xs
 | QA (id cnt : Nat) (xs : List aA) (e' : TypeId) (hid : id < n) (hh : h id = some (.row (.l xs) e')) (hl : xs.length = cnt * sz) : Own h n e sz (.sl id 0 cnt (some cnt) sz) cnt xs
def aL : aA → Option Nat
 | .sl id _ _ _ _ => some id
 | _ => none
theorem Own.length {e : TypeId} {sz cnt : Nat} {v : aA} {xs : List aA} (ho : Own h n e sz v cnt xs) : xs.length = cnt * sz := by cases ho with | nil => simp | sl id cnt xs hid hh hl => exact hl | QA id cnt xs e' hid hh hl => exact hl
theorem Own.aO {e : TypeId} {sz cnt : Nat} {v : aA} {xs : List aA} {h' : Hp} {n' : Nat} (ho : Own h n e sz v cnt xs) (hn : n ≤ n') (hk : ∀ j, aL v = some j → h' j = h j) : Own h' n' e sz v cnt xs := by
 cases ho with
 | nil => exact .nil
 | sl id cnt xs hid hh hl => exact .sl id cnt xs (by omega) (by rw [hk id rfl]; exact hh) hl
 | QA id cnt xs e' hid hh hl => exact .QA id cnt xs e' (by omega) (by rw [hk id rfl]; exact hh) hl
theorem iE {a b : Nat} (hh : ¬ a ≤ b) : a.ble b = false := by
 cases hc : a.ble b with
 | false => rfl
 | true => exact absurd (Nat.le_of_ble_eq_true hc) hh
theorem dQ {a b : Nat} (hh : a ≤ b) : a.ble b = true := Nat.ble_eq_true_of_le hh
theorem jU {a b : Nat} (hh : ¬ a = b) : a.beq b = false := by
 cases hc : a.beq b with
 | false => rfl
 | true => exact absurd (Nat.eq_of_beq_eq_true hc) hh
theorem pS (l : List UInt8) : (l.map u8).all bK = true := by
 induction l with
 | nil => rfl
 | cons a l ih => simp [u8, bK, ih]
theorem oT {f : Operand} {ps : Array Tmp} {a b : Code} {g : FuncId} {first cap : List aA} (hf : opd tm f = .fn (.func g) first cap) (hg : (E.funcs.find g).f.beq g = true)
  (hw : Wp (iC E (aX E) g (first ++ [aA.fn (.yield n) [] []] ++ cap)) (upd h n (some (.loop { state := .ready, pending := none, fn := fn, tmps := tm, params := ps.toList, assign := a, body := b }))) (n + 1) fun v h' n' =>
   ∃ l, h' n = some (.loop l) ∧ l.state ≠ .busy ∧ ∃ e, (match l.pending with | none => e = .normal | some .ret => e = .ret | some (.exit j) => e = .exit j | _ => False) ∧
    dR E fn none Q ks e tm (upd h' n (some (.loop { l with state := .exhausted }))) n') :
  Run E fn none Q (.rangeFunc f ps a b) ks tm h n := by
 unfold Run; rw [j0]
 simp only [step, hf, hg, aI, dG, KV]
 refine cG hw fun v h' n' ⟨l, hl, hb, e, he, hk⟩ => ?_
 simp only [C5, gC, hl, Option.some.injEq, exists_eq_left', dI]
 cases hs : l.state with
 | busy => exact absurd hs hb
 | _ =>
  simp only [mI, hl, ne_eq, reduceCtorEq, not_false_eq_true, true_and]
  cases hp : l.pending with
  | none => rw [hp] at he; simp only at he; subst he; rw [hp] at hk; simp only [aS]; exact hk
  | some c =>
   rw [hp] at he
   cases c with
   | ret => simp only at he; subst he; rw [hp] at hk; simp only [aS]; exact hk
   | exit j => simp only at he; subst he; rw [hp] at hk; simp only [aS]; exact hk
   | _ => exact he.elim
def bC : Code → List Code
 | .seq a b => bC a ++ bC b
 | .cond _ a b => bC a ++ bC b
 | .block _ c => bC c
 | .loop c => c :: bC c
 | .scope c => bC c
 | .rangeFunc _ _ a b => bC a ++ bC b
 | _ => []
def dP : Code → List (Code × Code)
 | .seq a b => dP a ++ dP b
 | .cond _ a b => dP a ++ dP b
 | .block _ c => dP c
 | .loop c => dP c
 | .scope c => dP c
 | .rangeFunc _ _ a b => (a, b) :: (dP a ++ dP b)
 | _ => []
end Go.Am
set_option linter.unusedSimpArgs false
set_option linter.unusedVariables false
set_option linter.defProp false
namespace Go.Am
open Go Go.RowKit
variable {E : Env} {fn : FuncId} {rnd : Option Nat} {Q : dM} {ks : List Kf} {tm : List aA} {h : Hp} {n : Nat} {ops bM : List Oper} {d : Option Tmp}
theorem Q7 (b : Bool) : (aA.bool b).cells = [.bool b] ∧ bK (.bool b) = true ∧ eI (.bool b) = false := ⟨rfl, rfl, rfl⟩
theorem Q8 (b : Bool) : (aA.gG b).cells = [.gG b] ∧ bK (.gG b) = true ∧ eI (.gG b) = false := ⟨rfl, rfl, rfl⟩
theorem U6 (k : IntKind) (x : Int) : (aA.int k x).cells = [.int k x] ∧ bK (.int k x) = true ∧ eI (.int k x) = false := ⟨rfl, rfl, rfl⟩
theorem U2 (l : List UInt8) : (aA.str l).cells = [.str l] ∧ bK (.str l) = true ∧ eI (.str l) = false := ⟨rfl, rfl, rfl⟩
theorem Q3  : (aA.fC ).cells = [.fC ] ∧ bK (.fC ) = true ∧ eI (.fC ) = false := ⟨rfl, rfl, rfl⟩
theorem PZ  : (aA.aT ).cells = [.aT ] ∧ bK (.aT ) = true ∧ eI (.aT ) = false := ⟨rfl, rfl, rfl⟩
theorem Q4  : (aA.nI ).cells = [.nI ] ∧ bK (.nI ) = true ∧ eI (.nI ) = false := ⟨rfl, rfl, rfl⟩
theorem Q6  : (aA.dL ).cells = [.dL ] ∧ bK (.dL ) = true ∧ eI (.dL ) = false := ⟨rfl, rfl, rfl⟩
theorem Q5  : (aA.wL ).cells = [.wL ] ∧ bK (.wL ) = true ∧ eI (.wL ) = false := ⟨rfl, rfl, rfl⟩
theorem U7  : (aA.emp ).cells = [.emp ] ∧ bK (.emp ) = true ∧ eI (.emp ) = false := ⟨rfl, rfl, rfl⟩
theorem U3 (i o : Nat) : (aA.ptr i o).cells = [.ptr i o] ∧ bK (.ptr i o) = true ∧ eI (.ptr i o) = false := ⟨rfl, rfl, rfl⟩
theorem YG (i o n : Nat) (c : Option Nat) (s : Nat) : (aA.sl i o n c s).cells = [.sl i o n c s] ∧ bK (.sl i o n c s) = true ∧ eI (.sl i o n c s) = false := ⟨rfl, rfl, rfl⟩
theorem YH (f : Nat → aA) (n o : Nat) : (aA.ip f n o).cells = [.ip f n o] ∧ bK (.ip f n o) = true ∧ eI (.ip f n o) = false := ⟨rfl, rfl, rfl⟩
theorem U5 (f : Nat → aA) (s o n : Nat) : (aA.isl f s o n).cells = [.isl f s o n] ∧ bK (.isl f s o n) = true ∧ eI (.isl f s o n) = false := ⟨rfl, rfl, rfl⟩
theorem YI (f : Fn) (a b : List aA) : (aA.fn f a b).cells = [.fn f a b] ∧ bK (.fn f a b) = true ∧ eI (.fn f a b) = false := ⟨rfl, rfl, rfl⟩
theorem U4 (i : Nat) : (aA.map i).cells = [.map i] ∧ bK (.map i) = true ∧ eI (.map i) = false := ⟨rfl, rfl, rfl⟩
theorem U8 (l : List aA) : (aA.agg l).cells = l ∧ eI (.agg l) = false := ⟨rfl, rfl⟩
def cel := (And.intro @Q7 (And.intro @Q8 (And.intro @U6 (And.intro @U2 (And.intro @Q3 (And.intro @PZ (And.intro @Q4 (And.intro @Q6 (And.intro @Q5 (And.intro @U7 (And.intro @U3 (And.intro @YG (And.intro @YH (And.intro @U5 (And.intro @YI (And.intro @U4 @U8))))))))))))))))
theorem Bytes.kind {v : aA} {l : List UInt8} (hb : Bytes h v l) : v.cells = [v] ∧ bK v = true ∧ eI v = false := by cases hb <;> exact ⟨rfl, rfl, rfl⟩
theorem aU {i j : Nat} : dR E fn rnd Q (.block i :: ks) (.exit j) tm h n ↔ (match j.beq i with | true => dR E fn rnd Q ks .normal tm h n | false => dR E fn rnd Q ks (.exit j) tm h n) := Iff.rfl
theorem cZ {op : Op} {want : Bool} : OpG E fn rnd Q ks ops bM d tm op want undef h n ↔ Ops E fn rnd Q ks ops bM (cE tm d undef) h n := xD
theorem bN {rec : Rec} (g : FuncId) (first cap args : List aA) : nF E rec (.fn (.func g) first cap) args = iC E rec g (first ++ args ++ cap) := rfl
end Go.Am
set_option linter.unusedSimpArgs false
set_option linter.unusedVariables false
set_option linter.defProp false
namespace Go.Am
open Go Go.RowKit
variable {E : Env} {fn : FuncId} {rnd : Option Nat} {Q : dM} {ks : List Kf} {tm : List aA} {h : Hp} {n : Nat} {ops bM : List Oper} {d : Option Tmp}
def Fe (E : Env) (fn : FuncId) (rnd : Option Nat) (Q : dM) (ks : List Kf) (ops : List Oper) (j : Nat) (bM : List Oper) (tm : List aA) (fs : List gA) (h : Hp) (n : Nat) : Prop :=
 Wp (iX E (aX E) ops j bM tm fs) h n fun r h' n' => dX (dU [] ops) r.2 = true ∧ dR E fn rnd Q ks .normal (bQ E fn r.1) h' n'
def FeV (E : Env) (fn : FuncId) (rnd : Option Nat) (Q : dM) (ks : List Kf) (ops : List Oper) (j : Nat) (bM : List Oper) (d : Option Tmp) (tm : List aA) (fs : List gA) (m : M aA) (h : Hp) (n : Nat) : Prop :=
 Wp (jP j m) h n fun r h' n' => Fe E fn rnd Q ks ops (j + 1) bM (cE tm d r.1) (r.2 :: fs) h' n'
variable {j : Nat} {fs : List gA}
theorem bY {id : Nat} {ops : Array Oper} (hh : (nV E.yG fn id && qP ops.toList) = true ∧ Fe E fn rnd Q ks ops.toList 0 ops.toList tm [] h n) : Run E fn rnd Q (.region id ops true) ks tm h n := by
 obtain ⟨h1, h2⟩ := hh
 rw [Bool.and_eq_true] at h1
 unfold Fe at h2
 unfold Run; rw [j0]; simp only [step, qI h1.1, vB, dG, aS, NU]
 exact ⟨h1.2, h2⟩
theorem j5 : Fe E fn rnd Q ks ops j [] tm fs h n ↔ dX (dU [] ops) fs = true ∧ dR E fn rnd Q ks .normal (bQ E fn tm) h n := by
 unfold Fe; simp only [iX, aS]
theorem kK {op : Op} {ty : TypeId} {pos : String} {af : Array Edge} : Fe E fn rnd Q ks ops j (⟨d, op, ty, pos, af, none⟩ :: bM) tm fs h n ↔ FeV E fn rnd Q ks ops j bM d tm fs (execOp E (aX E) tm op) h n := by
 unfold Fe FeV; simp only [iX, opV, wanted, aI, dG]; rfl
def FeG (E : Env) (fn : FuncId) (rnd : Option Nat) (Q : dM) (ks : List Kf) (ops : List Oper) (j : Nat) (bM : List Oper) (d : Option Tmp) (tm : List aA) (fs : List gA) (o : Op) (want : Bool) (v : aA) (h : Hp) (n : Nat) : Prop :=
 FeV E fn rnd Q ks ops j bM d tm fs ((kF want v).bind fun w => match w with | true => execOp E (aX E) tm o | false => M.pure undef) h n
def SK (E : Env) (fn : FuncId) (rnd : Option Nat) (Q : dM) (ks : List Kf) (ops : List Oper) (j : Nat) (bM : List Oper) (d : Option Tmp) (tm : List aA) (fs : List gA) (o : Op) (want : Bool) (g : Option Oper) (h : Hp) (n : Nat) : Prop :=
 match g.bind (·.dst) with
 | some g => FeG E fn rnd Q ks ops j bM d tm fs o want (nth tm g undef) h n
 | none => FeV E fn rnd Q ks ops j bM d tm fs (M.pure undef) h n
theorem jH {op : Op} {ty : TypeId} {pos : String} {af : Array Edge} {i : Nat} {want : Bool} :
  Fe E fn rnd Q ks ops j (⟨d, op, ty, pos, af, some (i, want)⟩ :: bM) tm fs h n ↔ SK E fn rnd Q ks ops j bM d tm fs op want ops[i]? h n := by
 unfold SK
 cases hg : (ops[i]?).bind (·.dst) with
 | none => unfold Fe FeV; simp only [iX, opV, wanted, hg, aI, dG]; rfl
 | some g => unfold Fe FeG FeV; simp only [iX, opV, wanted, hg, dG]; rfl
theorem iQ {op : Op} {want : Bool} {g : Tmp} {o2 : Op} {ty : TypeId} {pos : String} {af : Array Edge} {gg : Option (Nat × Bool)} :
  SK E fn rnd Q ks ops j bM d tm fs op want (some ⟨some g, o2, ty, pos, af, gg⟩) h n ↔ FeG E fn rnd Q ks ops j bM d tm fs op want (nth tm g undef) h n := Iff.rfl
theorem B0 {α : Type} {b : Bool} {f : Bool → M α} {Q : α × gA → Hp → Nat → Prop} : Wp (jP j ((ask b).bind f)) h n Q ↔ Wp (jP j (f b)) h n Q := by
 have : ∀ s : St, s.orc = none → (jP j ((ask b).bind f)).run s = (jP j (f b)).run s := by
  intro s hs
  simp only [jP, lD, M.bind, lG, ask, BM, hs]
 rw [fE, fE]
 constructor
 ·rintro ⟨a, s', he, hq⟩; exact ⟨a, s', ⟨by rw [← this (at0 h n) rfl]; exact he.run, he.obs, he.oc⟩, hq⟩
 ·rintro ⟨a, s', he, hq⟩; exact ⟨a, s', ⟨by rw [this (at0 h n) rfl]; exact he.run, he.obs, he.oc⟩, hq⟩
theorem jG {op : Op} {want t : Bool} : FeG E fn rnd Q ks ops j bM d tm fs op want (.bool t) h n ↔ FeG E fn rnd Q ks ops j bM d tm fs op want (.gG t) h n := by
 simp only [FeG, kF, FeV, bind_assoc, B0, aI]
theorem mV {op : Op} : FeG E fn rnd Q ks ops j bM d tm fs op true (.gG true) h n ↔ FeV E fn rnd Q ks ops j bM d tm fs (execOp E (aX E) tm op) h n := by
 simp only [FeG, kF, aI]; rfl
theorem mY {op : Op} : FeG E fn rnd Q ks ops j bM d tm fs op false (.gG false) h n ↔ FeV E fn rnd Q ks ops j bM d tm fs (execOp E (aX E) tm op) h n := by
 simp only [FeG, kF, aI]; rfl
theorem mW {op : Op} : FeG E fn rnd Q ks ops j bM d tm fs op true (.gG false) h n ↔ FeV E fn rnd Q ks ops j bM d tm fs (M.pure undef) h n := by
 simp only [FeG, kF, aI]; rfl
theorem mX {op : Op} : FeG E fn rnd Q ks ops j bM d tm fs op false (.gG true) h n ↔ FeV E fn rnd Q ks ops j bM d tm fs (M.pure undef) h n := by
 simp only [FeG, kF, aI]; rfl
theorem mU {op : Op} {want : Bool} : FeG E fn rnd Q ks ops j bM d tm fs op want undef h n ↔ FeV E fn rnd Q ks ops j bM d tm fs (M.pure undef) h n := by
 simp only [FeG, kF, undef, aI]
theorem kJ {b : Bool} {f : Bool → M aA} : FeV E fn rnd Q ks ops j bM d tm fs ((ask b).bind f) h n ↔ FeV E fn rnd Q ks ops j bM d tm fs (f b) h n := by
 simp only [FeV, B0]
theorem FO {α : Type} {a : α} {Q : α × gA → Hp → Nat → Prop} : Wp (jP j (M.pure a)) h n Q ↔ Q (a, ⟨j, [], [], n, n⟩) h n := by
 rw [fE]
 constructor
 ·rintro ⟨r, s', he, hq⟩
  have h0 := he.run
  simp only [jP, lD, M.pure, at0, List.filter_nil, List.append_nil] at h0
  injection h0 with h1 h2
  subst h1; subst h2
  exact hq
 ·intro hq
  exact ⟨_, _, ⟨rfl, ⟨[], rfl, rfl⟩, rfl⟩, hq⟩
theorem jD {v : aA} : FeV E fn rnd Q ks ops j bM d tm fs (M.pure v) h n ↔ Fe E fn rnd Q ks ops (j + 1) bM (cE tm d v) (⟨j, [], [], n, n⟩ :: fs) h n := by
 simp only [FeV, FO]
theorem jF {w : String} : FeV E fn rnd Q ks ops j bM d tm fs (bJ w) h n ↔ False := by
 unfold FeV
 rw [fE]
 refine ⟨?_, False.elim⟩
 rintro ⟨a, s', he, _⟩
 cases he.run
structure Rd {α : Type} (m : M α) (h : Hp) (n : Nat) (ids : List Nat) (v : α) : Prop where
 r : ∀ s, At s h n → ∃ s' o, m.run s = .ok v s' ∧ s'.heap.get = s.heap.get ∧ s'.next = s.next ∧ s'.orc = none ∧ s'.rds = ids ++ s.rds ∧ s'.wrs = s.wrs ∧ s'.obs = o ++ s.obs ∧ o.all id = true
theorem Rd.pure {α : Type} (v : α) : Rd (M.pure v) h n [] v := ⟨fun s hs => ⟨s, [], rfl, rfl, rfl, hs.oc, rfl, rfl, rfl, rfl⟩⟩
theorem Rd.bind {α β : Type} {m : M α} {f : α → M β} {i1 i2 : List Nat} {a : α} {b : β} (h1 : Rd m h n i1 a) (h2 : Rd (f a) h n i2 b) : Rd (m.bind f) h n (i2 ++ i1) b := by
 refine ⟨fun s hs => ?_⟩
 obtain ⟨s1, o1, e1, a1, b1, c1, d1, w1, g1, q1⟩ := h1.r s hs
 obtain ⟨s2, o2, e2, a2, b2, c2, d2, w2, g2, q2⟩ := h2.r s1 ⟨by rw [a1, hs.hp], by rw [b1, hs.nx], c1⟩
 exact ⟨s2, o2 ++ o1, by simp only [M.bind, lG, e1, e2], by rw [a2, a1], by rw [b2, b1], c2, by rw [d2, d1, List.append_assoc], by rw [w2, w1], by rw [g2, g1, List.append_assoc], by rw [List.all_append, q1, q2]; rfl⟩
theorem Rd.get {id : Nat} {b : Blk} (hg : h id = some b) : Rd (fX id) h n [id] b := by
 refine ⟨fun s hs => ⟨{ s with rds := id :: s.rds }, [], ?_, rfl, rfl, hs.oc, rfl, rfl, rfl, rfl⟩⟩
 have : s.heap.get id = some b := by rw [hs.hp]; exact hg
 simp only [fX, z7, this]
theorem Rd.ob {b : Bool} (hb : b = true) : Rd (ob b) h n [] () := by
 subst hb
 exact ⟨fun s hs => ⟨s, [], rfl, rfl, rfl, hs.oc, rfl, rfl, rfl, rfl⟩⟩
theorem Rd.ask (b : Bool) : Rd (ask b) h n [] b := ⟨fun s hs => ⟨s, [], by simp only [Go.Am.ask, BM, hs.oc], rfl, rfl, hs.oc, rfl, rfl, rfl, rfl⟩⟩
theorem Rd.wp {α : Type} {m : M α} {ids : List Nat} {v : α} (hr : Rd m h n ids v) : Wp m h n fun a h' n' => a = v ∧ h' = h ∧ n' = n := by
 obtain ⟨s', o, e, a, b, c, d, w, g, q⟩ := hr.r _ (lH h n)
 exact fE.2 ⟨v, s', ⟨e, ⟨o, g, q⟩, c⟩, rfl, by rw [a]; rfl, by rw [b]; rfl⟩
theorem aR {m : M aA} {ids : List Nat} {v : aA} (hr : Rd m h n ids v) :
  FeV E fn rnd Q ks ops j bM d tm fs m h n ↔ Fe E fn rnd Q ks ops (j + 1) bM (cE tm d v) (⟨j, ids, [], n, n⟩ :: fs) h n := by
 unfold FeV
 obtain ⟨s', o, e, a, b, c, dd, w, g, q⟩ := hr.r (at0 h n) (lH h n)
 have hold : ids.filter (old n n) = ids := by
  rw [List.filter_eq_self]
  intro id _
  unfold old
  by_cases hc : id < n
  ·rw [show id.blt n = true from Nat.ble_eq_true_of_le hc]; rfl
  ·rw [show n.ble id = true from Nat.ble_eq_true_of_le (by omega)]; simp
 have hf : (jP j m).run (at0 h n) = .ok (v, ⟨j, ids, [], n, n⟩) { s' with rds := s'.rds ++ (at0 h n).rds, wrs := s'.wrs ++ (at0 h n).wrs } := by
  have e' : m.run { at0 h n with rds := [], wrs := [] } = .ok v s' := e
  simp only [jP, lD, e', dd, w, b]
  simp only [at0, List.append_nil, hold, List.filter_nil]
 rw [fE]
 constructor
 ·rintro ⟨r, s2, he, hq⟩
  have h0 := he.run
  rw [hf] at h0
  injection h0 with h1 h2
  subst h1; subst h2
  rw [a, b] at hq
  exact hq
 ·intro hq
  refine ⟨_, _, ⟨hf, ⟨o, g, q⟩, c⟩, ?_⟩
  rw [a, b]; exact hq
def bI (h : Hp) (n : Nat) : Prop := ∀ id, n ≤ id → h id = none
theorem bI.none : bI (fun _ => none) n := fun _ _ => rfl
theorem bI.new {b : Option Blk} (hf : bI h n) : bI (upd h n b) (n + 1) := fun id hi => by rw [aP _ _ (by omega)]; exact hf id (by omega)
theorem bI.upd {b : Option Blk} {i : Nat} (hf : bI h n) (hi : i < n) : bI (upd h i b) n := fun id hid => by rw [aP _ _ (by omega)]; exact hf id hid
theorem Wp.zA {α : Type} {m : M α} {Q : α → Hp → Nat → Prop} (hw : Wp m h n Q) (hf : bI h n) : Wp m h n fun a h' n' => Q a h' n' ∧ n ≤ n' ∧ bI h' n' := by
 obtain ⟨s, a, s', hs, he, hq⟩ := hw
 obtain ⟨r, w, o, d⟩ := m.loc _ _ _ he.run
 have hsf : ∀ id, n ≤ id → s.heap.get id = none := fun id hi => by rw [hs.hp]; exact hf id hi
 have hn : n ≤ s'.next := by rw [← hs.nx]; exact d.next
 refine ⟨s, a, s', hs, he, hq, hn, fun id hi => ?_⟩
 have hnn : ¬ New s s' id := fun hh => by have := hh.2; omega
 rw [d.bM id (fun hw => by
  rcases d.dJ id hw with hh | hh
  ·exact hh (hsf id (by omega))
  ·exact hnn hh) hnn]
 exact hsf id (by omega)
theorem bD {m : M aA} {Q1 : aA → Hp → Nat → Prop} (hf : bI h n) (hw : Wp m h n Q1) (hq : ∀ v h' n', n ≤ n' → bI h' n' → Q1 v h' n' → Ops E fn rnd Q ks ops bM (cE tm d v) h' n') : OpV E fn rnd Q ks ops bM d tm m h n :=
 cG (hw.zA hf) fun a h' n' hh => hq a h' n' hh.2.1 hh.2.2 hh.1
theorem rJ {m : M aA} {Q0 Q1 : aA → Hp → Nat → Prop} (hf : bI h n) (hw0 : Wp m (fun _ => none) n Q0) (hw : Wp m h n Q1)
  (hq : ∀ v h' n', n ≤ n' → bI h' n' → Q1 v h' n' → Fe E fn rnd Q ks ops (j + 1) bM (cE tm d v) (⟨j, [], [], n, n'⟩ :: fs) h' n') : FeV E fn rnd Q ks ops j bM d tm fs m h n := by
 unfold FeV
 obtain ⟨v0, s0, he0, _⟩ := fE.1 hw0
 obtain ⟨v, s', he, hq1, hn1, hf1⟩ := fE.1 (hw.zA hf)
 obtain ⟨r, w, o, dd⟩ := m.loc _ _ _ he0.run
 have hrn : ∀ id, id ∈ r → New (at0 (fun _ => none) n) s0 id := fun id hid => by
  rcases dd.uF id hid with hh | hh
  ·exact absurd rfl hh
  ·exact hh
 have hwn : ∀ id, id ∈ w → New (at0 (fun _ => none) n) s0 id := fun id hid => by
  rcases dd.dJ id hid with hh | hh
  ·exact absurd rfl hh
  ·exact hh
 obtain ⟨t', e, g1, g2, g3, g4, g5, g6, g7⟩ := dd.rR (at0 h n) rfl rfl (fun id hid => by
  have : New (at0 (fun _ => none) n) s0 id := by
   rcases hid with hid | hid | hid
   ·exact hrn id hid
   ·exact hwn id hid
   ·exact hid
  exact hf id this.1)
 rw [he.run] at e
 injection e with e1 e2
 subst e1; subst e2
 have old0 : ∀ l : List Nat, (∀ id, id ∈ l → New (at0 (fun _ => none) n) s0 id) → l.filter (old n s'.next) = [] := by
  intro l hl
  rw [List.filter_eq_nil_iff]
  intro id hid
  have := hl id hid
  unfold old
  have h1 : id.blt n = false := by
   cases hc : id.blt n with
   | false => rfl
   | true => have h2 := Nat.le_of_ble_eq_true hc; have h3 : n ≤ id := this.1; omega
  have h2 : s'.next.ble id = false := by
   cases hc : s'.next.ble id with
   | false => rfl
   | true => have h2 := Nat.le_of_ble_eq_true hc; have h3 := this.2; rw [g1] at h2; omega
  rw [h1, h2]; simp
 have hfoot : (jP j m).run (at0 h n) = .ok (v, ⟨j, [], [], n, s'.next⟩) { s' with rds := s'.rds ++ (at0 h n).rds, wrs := s'.wrs ++ (at0 h n).wrs } := by
  have e' : m.run { at0 h n with rds := [], wrs := [] } = .ok v s' := he.run
  simp only [jP, lD, e']
  rw [g3, g4]
  have q1 := old0 r hrn
  have q2 := old0 w hwn
  simp only [at0, List.append_nil, q1, q2]
 refine fE.2 ⟨_, _, ⟨hfoot, he.obs, he.oc⟩, ?_⟩
 exact hq v _ _ hn1 hf1 hq1
theorem cK {m : M aA} {Q1 : aA → Hp → Nat → Prop} (hf : bI h n) (hw : Wp m h n Q1)
  (hq : ∀ v h' n' r w, n ≤ n' → bI h' n' → Q1 v h' n' → Fe E fn rnd Q ks ops (j + 1) bM (cE tm d v) (⟨j, r, w, n, n'⟩ :: fs) h' n') : FeV E fn rnd Q ks ops j bM d tm fs m h n := by
 unfold FeV
 obtain ⟨v, s', he, hq1, hn1, hf1⟩ := fE.1 (hw.zA hf)
 have e' : m.run { at0 h n with rds := [], wrs := [] } = .ok v s' := he.run
 have hfoot : (jP j m).run (at0 h n) = .ok (v, ⟨j, s'.rds.filter (old n s'.next), s'.wrs.filter (old n s'.next), n, s'.next⟩) { s' with rds := s'.rds ++ (at0 h n).rds, wrs := s'.wrs ++ (at0 h n).wrs } := by
  simp only [jP, lD, e']; rfl
 refine fE.2 ⟨_, _, ⟨hfoot, he.obs, he.oc⟩, ?_⟩
 exact hq v _ _ _ _ hn1 hf1 hq1
theorem Bytes.lW {v : aA} {l : List UInt8} (hb : Bytes h v l) {t t2 e : TypeId} (ht : und E t = M.pure (.slice e)) (h2 : und E t2 = M.pure .string) (he : und E e = M.pure (.int .u8)) :
  Rd (convert E t t2 v) h n (aL v).toList (.str l) := by
 have key : convert E t t2 v = lS E e v := by
  cases hb <;> simp only [convert, ht, h2, aI]
 rw [key]
 have cells : Rd (cU 1 l.length v) h n (aL v).toList (l.map u8) := by
  cases hb with
  | aT => exact Rd.bind (m := ob (Nat.beq 0 0)) (f := fun _ => M.pure []) (Rd.ob rfl) (Rd.pure _)
  | isl g off l hf =>
   have := jS g l.length off (l.map u8) (by simp) (fun j hj => by rw [hf j (by simpa using hj)]; simp)
   simp only [cU, bL, Nat.beq_refl, Nat.mul_one, this]
   exact Rd.bind (i2 := []) (Rd.ob (Nat.ble_self_eq_true _)) (Rd.pure _)
  | sl id off cap c e l hh hs hc =>
   have := bH.uB (c := c) (off := off) (l := l.map u8) (by simpa using hs) (fun j hj => by rw [hc j (by simpa using hj)]; simp)
   simp only [List.length_map] at this
   simp only [cU, bL, Nat.beq_refl, Nat.mul_one]
   refine Rd.bind (i2 := []) (Rd.get hh) ?_
   simp only [cW]
   refine Rd.bind (i2 := []) (Rd.ob (Nat.ble_self_eq_true _)) (Rd.bind (i2 := []) (Rd.ob (dQ hs)) ?_)
   rw [this]; exact Rd.pure _
 simp only [lS, he, aI, AP, hb.len]
 refine Rd.bind (i2 := []) cells (Rd.bind (i2 := []) (Rd.ob (tZ l)) ?_)
 rw [oS]; exact Rd.pure _
theorem lB (f : gA) : kI [] f = false := by unfold kI; cases f.lo.beq f.hi <;> rfl
theorem mB (x : List Nat) (j n : Nat) (r w : List Nat) : kI x ⟨j, r, w, n, n⟩ = false := by unfold kI; simp
theorem kP (x : List Nat) : iW [] x = false := rfl
theorem jO (x : List Nat) : iW x [] = false := by unfold iW; simp
end Go.Am
set_option linter.unusedSimpArgs false
set_option linter.unusedVariables false
set_option linter.defProp false
namespace Go.Am
open Go Go.RowKit
variable {E : Env} {fn : FuncId} {rnd : Option Nat} {Q : dM} {ks : List Kf} {tm : List aA} {h : Hp} {n : Nat} {ops bM : List Oper} {d : Option Tmp}
theorem vN (j n : Nat) (b : gA) : fK ⟨j, [], [], n, n⟩ b = false := by
 simp only [fK, kP, jO, lB, mB, Bool.or_false]
theorem vM (a : gA) (j n : Nat) : fK a ⟨j, [], [], n, n⟩ = false := by
 simp only [fK, kP, jO, lB, mB, Bool.or_false]
theorem vL (i j n m : Nat) (r s : List Nat) : fK ⟨i, r, [], n, n⟩ ⟨j, s, [], m, m⟩ = false := by
 simp only [fK, kP, jO, mB, Bool.or_false]
theorem vQ (i j a b c e : Nat) : fK ⟨i, [], [], a, b⟩ ⟨j, [], [], c, e⟩ = false := by
 simp only [fK, kP, jO, lB, Bool.or_false]
theorem MJ {α : Type} {j : Nat} {b : Bool} {f : Unit → M α} : jP j ((ob b).bind f) = (ob b).bind fun _ => jP j (f ()) := M.ext' fun s => by cases b <;> rfl
theorem mT {j : Nat} {fs : List gA} {b : Bool} {f : Unit → M aA} : FeV E fn rnd Q ks ops j bM d tm fs ((ob b).bind f) h n ↔ b = true ∧ FeV E fn rnd Q ks ops j bM d tm fs (f ()) h n := by
 unfold FeV; rw [MJ, fQ]
def oB : aA → Bool
 | .aT => true
 | _ => false
theorem Bytes.nil {v : aA} {l : List UInt8} (hb : Bytes h v l) : pM v = M.pure (oB v) ∧ (oB v = true → l = []) := by
 cases hb <;> exact ⟨rfl, fun h => by first | rfl | cases h⟩
theorem dA : pM .aT = M.pure true := rfl
theorem dE (i o l : Nat) (c : Option Nat) (z : Nat) : pM (.sl i o l c z) = M.pure false := rfl
theorem dD (f : Nat → aA) (z o l : Nat) : pM (.isl f z o l) = M.pure false := rfl
theorem S9 (op : BinOp) (t : TypeId) (k : IntKind) (a : Int) (y : aA) : binOp E op t (.int k a) y = cQ op k a y := rfl
theorem S5 (op : BinOp) (t : TypeId) (a : List UInt8) (y : aA) : binOp E op t (.str a) y = fB (fun b => strOp op a b) y := rfl
theorem N1 (op : BinOp) (t : TypeId) (b : Bool) (y : aA) : binOp E op t (.bool b) y = aV E op t (.bool b) y := rfl
theorem N2 (op : BinOp) (t : TypeId) (b : Bool) (y : aA) : binOp E op t (.gG b) y = aV E op t (.gG b) y := rfl
theorem MY (op : BinOp) (t : TypeId)  (y : aA) : binOp E op t (.fC ) y = aV E op t (.fC ) y := rfl
theorem MX (op : BinOp) (t : TypeId)  (y : aA) : binOp E op t (.aT ) y = aV E op t (.aT ) y := rfl
theorem MZ (op : BinOp) (t : TypeId)  (y : aA) : binOp E op t (.nI ) y = aV E op t (.nI ) y := rfl
theorem N0 (op : BinOp) (t : TypeId)  (y : aA) : binOp E op t (.dL ) y = aV E op t (.dL ) y := rfl
theorem S6 (op : BinOp) (t : TypeId) (i o : Nat) (y : aA) : binOp E op t (.ptr i o) y = aV E op t (.ptr i o) y := rfl
theorem W6 (op : BinOp) (t : TypeId) (i o n : Nat) (c : Option Nat) (s : Nat) (y : aA) : binOp E op t (.sl i o n c s) y = aV E op t (.sl i o n c s) y := rfl
theorem W7 (op : BinOp) (t : TypeId) (f : Nat → aA) (n o : Nat) (y : aA) : binOp E op t (.ip f n o) y = aV E op t (.ip f n o) y := rfl
theorem S8 (op : BinOp) (t : TypeId) (f : Nat → aA) (s o n : Nat) (y : aA) : binOp E op t (.isl f s o n) y = aV E op t (.isl f s o n) y := rfl
theorem W8 (op : BinOp) (t : TypeId) (f : Fn) (a b : List aA) (y : aA) : binOp E op t (.fn f a b) y = aV E op t (.fn f a b) y := rfl
theorem S7 (op : BinOp) (t : TypeId) (i : Nat) (y : aA) : binOp E op t (.map i) y = aV E op t (.map i) y := rfl
theorem SA (op : BinOp) (t : TypeId) (l : List aA) (y : aA) : binOp E op t (.agg l) y = aV E op t (.agg l) y := rfl
def bor := (And.intro @S9 (And.intro @S5 (And.intro @N1 (And.intro @N2 (And.intro @MY (And.intro @MX (And.intro @MZ (And.intro @N0 (And.intro @S6 (And.intro @W6 (And.intro @W7 (And.intro @S8 (And.intro @W8 (And.intro @S7 @SA))))))))))))))
theorem Bytes.JF {v : aA} {l : List UInt8} (hb : Bytes h v l) {t e : TypeId} (ht : und E t = M.pure (.slice e)) : binOp E .eql t v .aT = M.pure (.bool (oB v)) := by
 have key : ∀ x y, equal E 100 t x y = (pM x).bind fun a => (pM y).bind fun b => match a || b with | true => M.pure (a && b) | false => bJ "equal: slices" := by
  intro x y
  unfold equal
  rw [ht, aI]
  rfl
 have k2 : aV E .eql t v .aT = M.pure (.bool (oB v)) := by
  unfold aV bF
  simp only
  rw [key, hb.nil.1]
  simp only [aI, dA, Bool.or_true, Bool.and_true]
 cases hb <;> exact k2
end Go.Am
set_option linter.unusedSimpArgs false
set_option linter.unusedVariables false
set_option linter.defProp false
namespace Go.Am
open Go Go.RowKit
variable {E : Env} {fn : FuncId} {rnd : Option Nat} {Q : dM} {ks : List Kf} {tm : List aA} {h : Hp} {n : Nat} {ops bM : List Oper} {d : Option Tmp}
theorem aF {m : M aA} {ids : List Nat} {v : aA} (hr : Rd m h n ids v) : OpV E fn rnd Q ks ops bM d tm m h n ↔ Ops E fn rnd Q ks ops bM (cE tm d v) h n := tM hr.wp _ _ _ _ _ _ _ _ _
def kS (lo hi : Nat) : aA → aA
 | .isl g sz off len => .isl g sz (off + lo * sz) (hi - lo)
 | .sl id off len cap sz => .sl id (off + lo * sz) (hi - lo) (match cap with | some c => some (c - lo) | none => none) sz
 | v => v
theorem BY (lo hi : Nat) (v : aA) : aL (kS lo hi v) = aL v := by cases v <;> rfl
def BQ : aA → Prop
 | .sl _ _ len (some c) _ => len ≤ c
 | _ => True
theorem Bytes.aO {h h' : Hp} {v : aA} {l : List UInt8} (hb : Bytes h v l) (hk : ∀ j, aL v = some j → h' j = h j) : Bytes h' v l := by
 cases hb with
 | aT => exact .aT
 | isl f off l hf => exact .isl f off l hf
 | sl id off cap c e l hh hs hc => exact .sl id off cap c e l (by rw [hk id rfl]; exact hh) hs hc
theorem G5 {n : Nat} {v : aA} (hv : sR n v) {j : Nat} (hj : aL v = some j) : j < n := by
 cases v <;> simp only [aL] at hj <;> first | (injection hj with hj; subst hj; exact hv) | cases hj
end Go.Am
set_option linter.unusedSimpArgs false
set_option linter.unusedVariables false
set_option linter.defProp false
namespace Go.Am
open Go
def P7 : TypeDesc → Bool
 | .bool | .int _ | .string | .slice _ | .struct _ | .array _ _ => false
 | _ => true
def cut (f : Nat → aA) (o n : Nat) : List aA := (List.range n).map fun j => f (o + j)
inductive Arg (P : Program) : TypeId → List aA → Prop
 | bool (t : TypeId) (b : Bool) (ht : P.underlying t = some .bool) : Arg P t [.bool b]
 | int (t : TypeId) (k : IntKind) (n : Int) (ht : P.underlying t = some (.int k)) (hw : (Lit.int k n).wf = true) : Arg P t [.int k n]
 | str (t : TypeId) (l : List UInt8) (ht : P.underlying t = some .string) (hl : l.length ≤ maxLen) : Arg P t [.str l]
 | aT (t e : TypeId) (ht : P.underlying t = some (.slice e)) : Arg P t [.aT]
 | isl (t e : TypeId) (f : Nat → aA) (len : Nat) (ht : P.underlying t = some (.slice e)) (hl : len ≤ maxLen) (he : ∀ i, i < len → Arg P e (cut f (i * P.cellsOf e) (P.cellsOf e))) : Arg P t [.isl f (P.cellsOf e) 0 len]
 | zero (t e : TypeId) (ht : P.underlying t = some (.slice e)) (hz : P.cellsOf e = 0) : Arg P t [.aB]
 | struct (t : TypeId) (fs : Array Field) (vs : List aA) (ht : P.underlying t = some (.struct fs)) (hl : vs.length = P.cellsOf t) (he : ∀ (i : Nat) (fd : Field), fs[i]? = some fd → Arg P fd.type ((vs.drop fd.offset).take (P.cellsOf fd.type))) : Arg P t vs
 | array (t : TypeId) (n : Nat) (e : TypeId) (vs : List aA) (ht : P.underlying t = some (.array n e)) (hl : vs.length = P.cellsOf t) (he : ∀ i, i < n → Arg P e ((vs.drop (i * P.cellsOf e)).take (P.cellsOf e))) : Arg P t vs
 | xC (t : TypeId) (vs : List aA) (d : TypeDesc) (ht : P.underlying t = some d) (hd : P7 d = true) : Arg P t vs
variable {ρ : Ren} {m : Mem}
theorem RV.app {a b : List aA} {x y : List Value} (h : RV ρ m a x) (h' : RV ρ m b y) : RV ρ m (a ++ b) (x ++ y) := by
 induction h with
 | nil => exact h'
 | cons h t ih => exact .cons h ih
theorem RV.get {a : List aA} {x : List Value} (h : RV ρ m a x) : ∀ (j : Nat) (v : aA) (z : Value), a[j]? = some v → x[j]? = some z → R ρ m v z := by
 induction h with
 | nil => intro j v z h; simp at h
 | cons h t ih =>
  intro j v z hv hz
  cases j with
  | zero => simp at hv hz; subst hv; subst hz; exact h
  | succ j => exact ih j v z (by simpa using hv) (by simpa using hz)
theorem LD (x : List Value) : RV ρ m (x.map fun _ => .aB) x := by
 induction x with
 | nil => exact .nil
 | cons a x ih => exact .cons (.aB a) ih
theorem uS : ∀ (L : List (Nat × (List aA → Prop))) (cs : List Value), cs.length = (L.map (·.1)).sum →
  (∀ (i : Nat) (q : Nat × (List aA → Prop)), L[i]? = some q → ∃ vs, RV ρ m vs ((cs.drop ((L.take i).map (·.1)).sum).take q.1) ∧ q.2 vs) →
  ∃ vs, RV ρ m vs cs ∧ ∀ (i : Nat) (q : Nat × (List aA → Prop)), L[i]? = some q → q.2 ((vs.drop ((L.take i).map (·.1)).sum).take q.1) := by
 intro L
 induction L with
 | nil =>
  intro cs hl _
  have : cs = [] := by simpa using hl
  subst this
  exact ⟨[], .nil, fun i q h => by simp at h⟩
 | cons p L ih =>
  intro cs hl h
  simp only [List.map_cons, List.sum_cons] at hl
  obtain ⟨v1, r1, p1⟩ := h 0 p rfl
  simp only [List.take_zero, List.map_nil, List.sum_nil, List.drop_zero] at r1
  obtain ⟨v2, r2, p2⟩ := ih (cs.drop p.1) (by rw [List.length_drop]; omega) (fun i q hq => by
   obtain ⟨vs, a, b⟩ := h (i + 1) q (by simpa using hq)
   refine ⟨vs, ?_, b⟩
   rw [List.drop_drop]
   simpa [List.take_succ_cons] using a)
  have l1 : v1.length = p.1 := by rw [r1.length, List.length_take]; omega
  refine ⟨v1 ++ v2, by have := r1.app r2; rwa [List.take_append_drop] at this, fun i q hq => ?_⟩
  cases i with
  | zero =>
   injection hq with hq
   subst hq
   simp only [List.take_zero, List.map_nil, List.sum_nil, List.drop_zero]
   rw [← l1, List.take_left]; exact p1
  | succ i =>
   have := p2 i q (by simpa using hq)
   simp only [List.take_succ_cons, List.map_cons, List.sum_cons]
   rw [← List.drop_drop, ← l1, List.drop_left]; exact this
theorem DQ (n k : Nat) : (List.replicate n k).sum = n * k := by
 induction n with
 | zero => simp
 | succ n ih => rw [List.replicate_succ, List.sum_cons, ih, Nat.succ_mul]; omega
theorem wA (b off i : Nat) : (Addr.add ⟨b, off, none⟩ i) = ⟨b, off + i, none⟩ := by
 unfold Addr.add
 split
 ·rename_i h; subst h; rfl
 ·rfl
theorem AK {w : World} {b off : Nat} {v : Value} (h : w.cell? ⟨b, off, none⟩ = some v) : (oldMem w).cell b off = some v := by
 unfold Mem.cell oldMem
 simp only [World.cell?] at h
 revert h
 cases w.heap[b]? with
 | none => intro h; cases h
 | some o => cases o <;> simp
section
variable {H : Type} {enc : TypeId × Value → H} {P : Program} {w : World} {spare : Nat → Bool} {Q9 : Bool}
theorem arg_of_trod (hlaid : laidOutB P = true) : ∀ (fuel : Nat) (t : TypeId) (cs : List Value) (x : DataW H × List MemPlace), isVar P t = true → DataW.trod enc P w 0 spare Q9 fuel t cs = some x →
  ∃ vs, RV (fun _ => none) (oldMem w) vs cs ∧ Arg P t vs := by
 intro fuel
 induction fuel with
 | zero => intro t cs x _ h; simp [DataW.trod] at h
 | succ n ih =>
  intro t cs x hv h
  have hfine : rowFine P t = true := by
   have h1 : (List.range P.types.size).all (rowFine P) = true := by
    unfold laidOutB at hlaid
    simp only [Bool.and_eq_true] at hlaid
    exact hlaid.1.1
   rw [List.all_eq_true] at h1
   refine h1 t ?_
   unfold isVar at hv
   simp only [Bool.and_eq_true, decide_eq_true_eq] at hv
   exact List.mem_range.2 hv.1
  unfold rowFine at hfine
  rw [hv] at hfine
  cases hd : P.underlying t with
  | none => unfold isVar at hv; rw [hd] at hv; simp [kindOk] at hv
  | some d =>
   rw [hd] at hfine
   cases d
   case bool =>
    obtain ⟨b, rfl, _⟩ := DataW.trod_bool hd h
    exact ⟨_, .cons (.bool b) .nil, .bool t b hd⟩
   case int k =>
    obtain ⟨z, rfl, _, hw⟩ := DataW.trod_int hd h
    exact ⟨_, .cons (.int k z) .nil, .int t k z hd hw⟩
   case string =>
    obtain ⟨s, rfl, _, hs⟩ := DataW.trod_string hd h
    exact ⟨[.str s.data.toList], .cons (.str s.data.toList) .nil, .str t _ hd (by simpa using hs)⟩
   case struct fs =>
    obtain ⟨xs, n', e1, _, hl, hxl, he⟩ := DataW.trod_struct hd h
    injection e1 with e1
    subst e1
    simp only [Bool.not_true, Bool.false_or, Bool.and_eq_true, beq_iff_eq] at hfine
    obtain ⟨⟨f1, f2⟩, f3⟩ := hfine
    rw [List.all_eq_true] at f1 f3
    have off : ∀ (i : Nat) (fd : Field), fs.toList[i]? = some fd → fd.offset = ((fs.toList.take i).map fun f => P.cellsOf f.type).sum := fun i fd hi => by
     have := f3 i (List.mem_range.2 (List.getElem?_eq_some_iff.1 hi).1)
     rw [hi] at this
     exact beq_iff_eq.1 this
    obtain ⟨vs, r, hp⟩ := uS (ρ := fun _ => none) (m := oldMem w) (fs.toList.map fun f => (P.cellsOf f.type, Arg P f.type)) cs (by rw [hl, f2, List.map_map]; rfl) (fun i q hq => by
     rw [List.getElem?_map, Option.map_eq_some_iff] at hq
     obtain ⟨fd, hfd, rfl⟩ := hq
     have hxi : i < xs.length := by rw [hxl]; simpa using (List.getElem?_eq_some_iff.1 hfd).1
     have h1 := he i fd (by simpa using hfd)
     rw [List.getElem?_eq_getElem hxi] at h1
     obtain ⟨vs, a, b⟩ := ih fd.type _ _ (f1 fd (List.mem_of_getElem? hfd)) h1
     refine ⟨vs, ?_, b⟩
     rw [List.map_take, List.map_map, ← List.map_take]
     rw [off i fd hfd] at a
     exact a)
    refine ⟨vs, r, .struct t fs vs hd (by rw [r.length, hl]) fun i fd hi => ?_⟩
    have hi' : fs.toList[i]? = some fd := by simpa using hi
    have := hp i (P.cellsOf fd.type, Arg P fd.type) (by rw [List.getElem?_map, hi']; rfl)
    rw [List.map_take, List.map_map, ← List.map_take] at this
    rw [off i fd hi']
    exact this
   case array k e =>
    obtain ⟨xs, n', e1, _, hl, hxl, he⟩ := DataW.trod_array hd h
    injection e1 with e1
    subst e1
    simp only [Bool.not_true, Bool.false_or, Bool.and_eq_true, beq_iff_eq] at hfine
    obtain ⟨f1, f2⟩ := hfine
    have hsum : ∀ i, i ≤ k → (((List.replicate k (P.cellsOf e, Arg P e)).take i).map (·.1)).sum = i * P.cellsOf e := fun i hi => by
     rw [List.take_replicate, List.map_replicate, DQ, Nat.min_eq_left hi]
    obtain ⟨vs, r, hp⟩ := uS (ρ := fun _ => none) (m := oldMem w) (List.replicate k (P.cellsOf e, Arg P e)) cs (by rw [hl, f2, List.map_replicate, DQ]) (fun i q hq => by
     rw [List.getElem?_replicate] at hq
     split at hq
     ·rename_i hik
      injection hq with hq
      subst hq
      have h1 := he i hik
      rw [List.getElem?_eq_getElem (by omega)] at h1
      obtain ⟨vs, a, b⟩ := ih e _ _ f1 h1
      refine ⟨vs, ?_, b⟩
      rw [hsum i (by omega)]
      exact a
     ·cases hq)
    refine ⟨vs, r, .array t k e vs hd (by rw [r.length, hl]) fun i hi => ?_⟩
    have := hp i (P.cellsOf e, Arg P e) (by rw [List.getElem?_replicate, if_pos hi])
    rwa [hsum i (by omega)] at this
   case slice e =>
    simp only [Bool.not_true, Bool.false_or, Bool.and_eq_true, beq_iff_eq] at hfine
    rcases DataW.trod_slice hd h with ⟨rfl, _⟩ | ⟨a, len, cap, elems, bM, n', e1, rfl, _, hb, hl, hm, hlen, hel, _, _⟩
    ·exact ⟨_, .cons .aT .nil, .aT t e hd⟩
    injection e1 with e1
    subst e1
    by_cases hz : P.cellsOf e = 0
    ·exact ⟨_, .cons (.aB _) .nil, .zero t e hd hz⟩
    have each : ∀ i, ∃ vs, i < len → vs.length = P.cellsOf e ∧ Arg P e vs ∧ ∃ cs', w.cells? 0 (a.add (i * P.cellsOf e)) (P.cellsOf e) = some cs' ∧ RV (fun _ => none) (oldMem w) vs cs' := fun i => by
     by_cases hi : i < len
     ·have h1 := hel i hi
      rw [List.getElem?_eq_getElem (by omega), Option.bind_eq_some_iff] at h1
      obtain ⟨cs', c1, c2⟩ := h1
      obtain ⟨vs, r, g⟩ := ih e cs' _ hfine.1 c2
      exact ⟨vs, fun _ => ⟨by rw [r.length, (World.cells?_some c1).2.1], g, cs', c1, r⟩⟩
     ·exact ⟨[], fun q => absurd q hi⟩
    obtain ⟨vs, hvs⟩ := Classical.axiomOfChoice each
    have hcut : ∀ i, i < len → cut (fun j => (vs (j / P.cellsOf e)).getD (j % P.cellsOf e) .aB) (i * P.cellsOf e) (P.cellsOf e) = vs i := fun i hi => by
     obtain ⟨l1, _⟩ := hvs i hi
     refine List.ext_getElem (by simp [cut, l1]) fun j h1 h2 => ?_
     simp only [cut, List.getElem_map, List.getElem_range]
     have hj : j < P.cellsOf e := by omega
     rw [show (i * P.cellsOf e + j) / P.cellsOf e = i by rw [Nat.mul_comm, Nat.mul_add_div (by omega), Nat.div_eq_of_lt hj, Nat.add_zero], show (i * P.cellsOf e + j) % P.cellsOf e = j by rw [Nat.mul_comm, Nat.mul_add_mod, Nat.mod_eq_of_lt hj], List.getD_eq_getElem?_getD, List.getElem?_eq_getElem h2, Option.getD_some]
    refine ⟨[.isl (fun j => (vs (j / P.cellsOf e)).getD (j % P.cellsOf e) .aB) (P.cellsOf e) 0 len], .cons ?_ .nil, .isl t e _ len hd (by omega) fun i hi => by rw [hcut i hi]; exact (hvs i hi).2.1⟩
    by_cases h0 : len = 0
    ·subst h0
     exact .sH _ _ _ _ a
    have hspot : a.spot = none := by
     obtain ⟨_, _, cs', c1, _⟩ := hvs 0 (by omega)
     obtain ⟨_, c2, c3⟩ := World.cells?_some c1
     have c4 := c3 0 (by omega)
     rw [List.getElem?_eq_getElem (by omega), Nat.zero_mul] at c4
     have e0 : (a.add 0).add 0 = a := by unfold Addr.add; rfl
     rw [e0] at c4
     exact World.cell?_spot c4
    obtain ⟨b, off, spot⟩ := a
    simp only at hspot
    subst hspot
    have hdm : ∀ j, j < 0 + len * P.cellsOf e → j / P.cellsOf e < len ∧ j % P.cellsOf e < P.cellsOf e ∧ j = j / P.cellsOf e * P.cellsOf e + j % P.cellsOf e := fun j hj => by
     refine ⟨Nat.div_lt_of_lt_mul (by rw [Nat.mul_comm]; omega), Nat.mod_lt _ (by omega), ?_⟩
     have := Nat.div_add_mod j (P.cellsOf e)
     rw [Nat.mul_comm] at this
     exact this.symm
    refine .isl _ _ 0 len b off cap (fun j => ((w.cells? 0 (Addr.add ⟨b, off, none⟩ (j / P.cellsOf e * P.cellsOf e)) (P.cellsOf e)).getD []).getD (j % P.cellsOf e) (.bool false)) (fun j hj => ?_) (fun j hj => ?_) hl
    ·obtain ⟨d1, d2, d3⟩ := hdm j hj
     obtain ⟨_, _, cs', c1, _⟩ := hvs _ d1
     rw [c1]
     obtain ⟨_, c2, c3⟩ := World.cells?_some c1
     have c4 := c3 _ d2
     rw [wA, wA, List.getElem?_eq_getElem (by omega)] at c4
     refine AK (b := b) (off := off + j) ?_
     rw [show off + j = off + j / P.cellsOf e * P.cellsOf e + j % P.cellsOf e by omega, c4]
     rw [Option.getD_some, List.getD_eq_getElem?_getD, List.getElem?_eq_getElem (by omega), Option.getD_some]
    ·obtain ⟨d1, d2, d3⟩ := hdm j hj
     obtain ⟨l1, _, cs', c1, r⟩ := hvs _ d1
     rw [c1, Option.getD_some]
     obtain ⟨_, c2, _⟩ := World.cells?_some c1
     rw [List.getD_eq_getElem?_getD, List.getElem?_eq_getElem (by omega), Option.getD_some]
     refine r.get (j % P.cellsOf e) _ _ (List.getElem?_eq_getElem (by omega)) ?_
     rw [List.getD_eq_getElem?_getD, List.getElem?_eq_getElem (by omega), Option.getD_some]
   all_goals exact ⟨_, LD cs, .xC t _ _ hd rfl⟩
end
theorem Arg.wV {P : Program} {t e : TypeId} {vs : List aA} (ht : P.underlying t = some (.slice e)) (hz : 0 < P.cellsOf e) (ha : Arg P t vs) :
  vs = [.aT] ∨ ∃ f len, vs = [.isl f (P.cellsOf e) 0 len] ∧ len ≤ maxLen ∧ ∀ i, i < len → Arg P e (cut f (i * P.cellsOf e) (P.cellsOf e)) := by
 cases ha with
 | aT t e' h => exact .inl rfl
 | isl t e' f len h hl hx => rw [ht] at h; injection h with h; injection h with h; subst h; exact .inr ⟨f, len, rfl, hl, hx⟩
 | zero t e' h hz => rw [ht] at h; injection h with h; injection h with h; subst h; omega
 | bool t b h2 => rw [ht] at h2; cases h2
 | int t b k h2 _ => rw [ht] at h2; cases h2
 | str t b h2 _ => rw [ht] at h2; cases h2
 | struct t e f h2 => rw [ht] at h2; cases h2
 | array t e f g h2 => rw [ht] at h2; cases h2
 | xC t e d h2 h3 => rw [ht] at h2; injection h2 with h2; subst h2; cases h3
theorem Arg.cY {P : Program} {t : TypeId} {k : IntKind} {vs : List aA} (ht : P.underlying t = some (.int k)) (ha : Arg P t vs) : ∃ z, vs = [.int k z] ∧ (Lit.int k z).wf = true := by
 cases ha with
 | int t k z h2 hw => rw [ht] at h2; injection h2 with h2; injection h2 with h2; subst h2; exact ⟨z, rfl, hw⟩
 | bool t b h2 => rw [ht] at h2; cases h2
 | str t b h2 _ => rw [ht] at h2; cases h2
 | aT t e h2 => rw [ht] at h2; cases h2
 | isl t e f len h2 => rw [ht] at h2; cases h2
 | zero t e h2 => rw [ht] at h2; cases h2
 | struct t e f h2 => rw [ht] at h2; cases h2
 | array t e f g h2 => rw [ht] at h2; cases h2
 | xC t e d h2 h3 => rw [ht] at h2; injection h2 with h2; subst h2; cases h3
theorem Arg.bool_inv {P : Program} {t : TypeId} {vs : List aA} (ht : P.underlying t = some .bool) (ha : Arg P t vs) : ∃ z, vs = [.bool z] := by
 cases ha with
 | int t k z h2 hw => rw [ht] at h2; cases h2
 | bool t b h2 => exact ⟨b, rfl⟩
 | str t b h2 _ => rw [ht] at h2; cases h2
 | aT t e h2 => rw [ht] at h2; cases h2
 | isl t e f len h2 => rw [ht] at h2; cases h2
 | zero t e h2 => rw [ht] at h2; cases h2
 | struct t e f h2 => rw [ht] at h2; cases h2
 | array t e f g h2 => rw [ht] at h2; cases h2
 | xC t e d h2 h3 => rw [ht] at h2; injection h2 with h2; subst h2; cases h3
theorem Arg.pV {P : Program} {t : TypeId} {fs : Array Field} {vs : List aA} (ht : P.underlying t = some (.struct fs)) (ha : Arg P t vs) : vs.length = P.cellsOf t ∧ ∀ (i : Nat) (fd : Field), fs[i]? = some fd → Arg P fd.type ((vs.drop fd.offset).take (P.cellsOf fd.type)) := by
 cases ha with
 | int t k z h2 hw => rw [ht] at h2; cases h2
 | bool t b h2 => rw [ht] at h2; cases h2
 | str t b h2 hl => rw [ht] at h2; cases h2
 | aT t e h2 => rw [ht] at h2; cases h2
 | isl t e f len h2 => rw [ht] at h2; cases h2
 | zero t e h2 => rw [ht] at h2; cases h2
 | struct t fs vs h2 hl he => rw [ht] at h2; injection h2 with h2; injection h2 with h2; subst h2; exact ⟨hl, he⟩
 | array t e f g h2 => rw [ht] at h2; cases h2
 | xC t e d h2 h3 => rw [ht] at h2; injection h2 with h2; subst h2; cases h3
theorem Arg.G6 {P : Program} {t e : TypeId} {n : Nat} {vs : List aA} (ht : P.underlying t = some (.array n e)) (ha : Arg P t vs) : vs.length = P.cellsOf t ∧ ∀ i, i < n → Arg P e ((vs.drop (i * P.cellsOf e)).take (P.cellsOf e)) := by
 cases ha with
 | int t k z h2 hw => rw [ht] at h2; cases h2
 | bool t b h2 => rw [ht] at h2; cases h2
 | str t b h2 hl => rw [ht] at h2; cases h2
 | aT t e h2 => rw [ht] at h2; cases h2
 | isl t e f len h2 => rw [ht] at h2; cases h2
 | zero t e h2 => rw [ht] at h2; cases h2
 | struct t fs vs h2 hl he => rw [ht] at h2; cases h2
 | array t e f g h2 hl he => rw [ht] at h2; injection h2 with h2; injection h2 with h2 h3; subst h2; subst h3; exact ⟨hl, he⟩
 | xC t e d h2 h3 => rw [ht] at h2; injection h2 with h2; subst h2; cases h3
theorem MS (f : Nat → aA) (o : Nat) : cut f o 1 = [f o] := by simp [cut]
theorem G8 {P : Program} {t e : TypeId} {v : aA} (ht : P.underlying t = some (.slice e)) (he : P.underlying e = some (.int .u8)) (hc : P.cellsOf e = 1) (ha : Arg P t [v]) : ∃ l, wC v l ∧ l.length ≤ maxLen := by
 rcases ha.wV ht (by omega) with h | ⟨f, len, h, hl, hx⟩
 ·injection h with h; subst h; exact ⟨[], ⟨fun h => .aT, fun _ => trivial⟩, Nat.zero_le _⟩
 ·injection h with h
  subst h
  rw [hc] at hx ⊢
  have each : ∀ i, ∃ b : UInt8, i < len → f i = u8 b := fun i => by
   by_cases hi : i < len
   ·have := hx i hi
    rw [Nat.mul_one, MS] at this
    obtain ⟨z, e1, hw⟩ := this.cY he
    injection e1 with e1
    exact ⟨byteOf z, fun _ => by rw [e1, u8, xW hw]⟩
   ·exact ⟨0, fun q => absurd q hi⟩
  obtain ⟨b, hb⟩ := Classical.axiomOfChoice each
  refine ⟨(List.range len).map b, ⟨fun h => ?_, fun _ => trivial⟩, by simpa using hl⟩
  have := Bytes.isl (h := h) f 0 ((List.range len).map b) (fun j hj => by
   simp only [List.length_map, List.length_range] at hj
   rw [Nat.zero_add, hb j hj]; simp)
  simpa using this
end Go.Am
set_option linter.unusedSimpArgs false
set_option linter.unusedVariables false
set_option linter.defProp false
namespace Go.Am
open Go Go.RowKit
variable {E : Env} {fn : FuncId} {rnd : Option Nat} {Q : dM} {ks : List Kf} {tm : List aA} {h : Hp} {n : Nat} {ops bM : List Oper} {d : Option Tmp}
def wd (n i : Nat) : Nat := n / 2 ^ (64 * i) % 18446744073709551616
def W (n : Nat) : aA := .agg [.int .u64 (wd n 0 : Nat), .int .u64 (wd n 1 : Nat), .int .u64 (wd n 2 : Nat), .int .u64 (wd n 3 : Nat)]
def KR (k : IntKind) (h : Hp) (v : aA) (id m : Nat) (f : Nat → Int) : Prop := (∃ cap, v = .sl id 0 m cap 1) ∧ ∃ c e, h id = some (.row c e) ∧ c.size = m ∧ ∀ j, j < m → c.at j = .int k (f j)
theorem KR.aO {k : IntKind} {v : aA} {id m : Nat} {f : Nat → Int} {h' : Hp} (hi : KR k h v id m f) (hk : h' id = h id) : KR k h' v id m f := by
 obtain ⟨a, c, e, b1, b2, b3⟩ := hi
 exact ⟨a, c, e, hk.trans b1, b2, b3⟩
theorem KR.idx {k : IntKind} {v : aA} {id m : Nat} {f : Nat → Int} (hi : KR k h v id m f) {t e : TypeId} (ht : und E t = M.pure (.slice e)) (he : sizeOf E e = M.pure 1) {kk : IntKind} {z : Int} {j : Nat} (hz : z = (j : Nat)) (hj : j < m) {h' : Hp} {n' : Nat} : Rd (indexAddr E t v (.int kk z)) h' n' [] (.ptr id j) := by
 obtain ⟨⟨cap, rfl⟩, _⟩ := hi
 subst hz
 simp only [indexAddr, ht, he, aI, dF, slK, Go.Am.idx, bind_assoc, Nat.beq_refl, Int.toNat_natCast, Nat.zero_add, Nat.mul_one]
 exact Rd.bind (i2 := []) (Rd.ob (by simp; omega)) (Rd.pure _)
theorem LI (xs : List aA) (v : aA) : ∀ (i j : Nat), i < xs.length → nth (put xs i v) j .aB = if j = i then v else nth xs j .aB := by
 induction xs with
 | nil => intro i j h; cases h
 | cons a xs ih =>
  intro i j h
  cases i with
  | zero => cases j <;> simp [put, nth]
  | succ i =>
   cases j with
   | zero => simp [put, nth]
   | succ j => simp only [put, nth, ih i j (by simpa using h)]; simp
theorem BD (c : bH) (i j : Nat) (v : aA) (h : i < c.size) : (c.set i v).at j = if j = i then v else c.at j := by
 cases c with
 | l xs => exact LI xs v i j h
 | f n g =>
  simp only [bH.set, bH.at]
  by_cases e : j = i
  ·subst e; simp
  ·rw [jU e, if_neg e]
theorem yJ (xs : List aA) (v : aA) : ∀ i, (put xs i v).length = xs.length := by
 induction xs with
 | nil => intro i; rfl
 | cons a xs ih => intro i; cases i <;> simp [put, ih]
theorem wP (c : bH) (i : Nat) (v : aA) : (c.set i v).size = c.size := by
 cases c with
 | l xs => exact yJ xs v i
 | f n g => rfl
def Arr (k : IntKind) (h : Hp) (id m : Nat) (f : Nat → Int) : Prop := ∃ c e, h id = some (.row c e) ∧ c.size = m ∧ ∀ j, j < m → c.at j = .int k (f j)
theorem Arr.aO {k : IntKind} {id m : Nat} {f : Nat → Int} {h' : Hp} (hi : Arr k h id m f) (hk : h' id = h id) : Arr k h' id m f := by
 obtain ⟨c, e, b1, b2, b3⟩ := hi
 exact ⟨c, e, hk.trans b1, b2, b3⟩
theorem zN {t e : TypeId} {m : Nat} (ht : und E t = M.pure (.array m e)) (he : sizeOf E e = M.pure 1) {kk : IntKind} {z : Int} {j id : Nat} (hz : z = (j : Nat)) (hj : j < m) {h' : Hp} {n' : Nat} : Rd (indexAddr E t (.ptr id 0) (.int kk z)) h' n' [] (.ptr id j) := by
 subst hz
 simp only [indexAddr, ht, he, aI, dF, Go.Am.idx, bind_assoc, Int.toNat_natCast, Nat.mul_one, aM, Nat.zero_add]
 exact Rd.bind (i2 := []) (Rd.ob (by simp; omega)) (Rd.pure _)
theorem pD {id e off : Nat} {t : TypeId} {i : TI} {cs : List aA} {x : aA} (hh : h id = some (.row (.l cs) e)) (hc : cs[off]? = some x) (hi : ti E t = M.pure i) (ha : eR i.desc = false) : Rd (Go.Am.load E t (.ptr id off)) h n [id] x := by
 obtain ⟨hl, hx⟩ := List.getElem?_eq_some_iff.1 hc
 simp only [Go.Am.load, hi, aI, ha, aZ, bind_assoc]
 refine Rd.bind (i2 := []) (Rd.get hh) ?_
 simp only [cW, bind_assoc]
 refine Rd.bind (i2 := []) (Rd.ob (dQ (by show off + 1 ≤ cs.length; omega))) ?_
 rw [bH.qR (by show off < cs.length; exact hl), bH.vW hl, hx]
 exact Rd.pure _
structure Wr {α : Type} (m : M α) (h : Hp) (n : Nat) (rs ws : List Nat) (v : α) (h2 : Hp) : Prop where
 r : ∀ s, At s h n → ∃ s' o, m.run s = .ok v s' ∧ s'.heap.get = h2 ∧ s'.next = s.next ∧ s'.orc = none ∧ s'.rds = rs ++ s.rds ∧ s'.wrs = ws ++ s.wrs ∧ s'.obs = o ++ s.obs ∧ o.all id = true
theorem Wr.bind {α β : Type} {m : M α} {f : α → M β} {i1 rs ws : List Nat} {a : α} {b : β} {h2 : Hp} (h1 : Rd m h n i1 a) (hw : Wr (f a) h n rs ws b h2) : Wr (m.bind f) h n (rs ++ i1) ws b h2 := by
 refine ⟨fun s hs => ?_⟩
 obtain ⟨s1, o1, e1, a1, b1, c1, d1, w1, g1, q1⟩ := h1.r s hs
 obtain ⟨s2, o2, e2, a2, b2, c2, d2, w2, g2, q2⟩ := hw.r s1 ⟨by rw [a1, hs.hp], by rw [b1, hs.nx], c1⟩
 exact ⟨s2, o2 ++ o1, by simp only [M.bind, lG, e1, e2], a2, by rw [b2, b1], c2, by rw [d2, d1, List.append_assoc], by rw [w2, w1], by rw [g2, g1, List.append_assoc], by rw [List.all_append, q1, q2]; rfl⟩
theorem Wr.ret {α β : Type} {m : M α} {rs ws : List Nat} {a : α} {w : β} {h2 : Hp} (hw : Wr m h n rs ws a h2) : Wr (m.bind fun _ => M.pure w) h n rs ws w h2 := by
 refine ⟨fun s hs => ?_⟩
 obtain ⟨s1, o1, e1, r⟩ := hw.r s hs
 exact ⟨s1, o1, by simp only [M.bind, lG, e1, M.pure], r⟩
theorem Wr.set {id : Nat} {b0 b : Blk} (hg : h id = some b0) : Wr (jK id b) h n [] [id] () (Go.Am.upd h id (some b)) := by
 refine ⟨fun s hs => ⟨{ s with heap := s.heap.put id (some b), wrs := id :: s.wrs }, [], ?_, ?_, rfl, hs.oc, rfl, rfl, rfl, rfl⟩⟩
 ·have : s.heap.get id = some b0 := by rw [hs.hp]; exact hg
  simp only [jK, sY, this]
 ·funext j
  simp only [Tr.mR, hs.hp, Go.Am.upd]
theorem mS {m : M aA} {rs ws : List Nat} {v : aA} {h2 : Hp} {o : Nat} {fs : List gA} (hr : Wr m h n rs ws v h2) (hq : Fe E fn rnd Q ks ops (o + 1) bM (cE tm d v) (⟨o, rs, ws, n, n⟩ :: fs) h2 n) :
  FeV E fn rnd Q ks ops o bM d tm fs m h n := by
 unfold FeV
 obtain ⟨s', ob, e, a, b, c, dd, w, g, q⟩ := hr.r (at0 h n) (lH h n)
 have hold : ∀ l : List Nat, l.filter (old n n) = l := fun l => by
  rw [List.filter_eq_self]
  intro id _
  unfold old
  by_cases hc : id < n
  ·rw [show id.blt n = true from Nat.ble_eq_true_of_le hc]; rfl
  ·rw [show n.ble id = true from Nat.ble_eq_true_of_le (by omega)]; simp
 have hf : (jP o m).run (at0 h n) = .ok (v, ⟨o, rs, ws, n, n⟩) { s' with rds := s'.rds ++ (at0 h n).rds, wrs := s'.wrs ++ (at0 h n).wrs } := by
  have e' : m.run { at0 h n with rds := [], wrs := [] } = .ok v s' := e
  simp only [jP, lD, e', dd, w, b]
  simp only [at0, List.append_nil, hold]
 rw [fE]
 refine ⟨_, _, ⟨hf, ⟨ob, g, q⟩, c⟩, ?_⟩
 rw [a, b]; exact hq
theorem vK {i j n m x y : Nat} (h : x ≠ y) : fK ⟨i, [x], [], n, n⟩ ⟨j, [y], [y], m, m⟩ = false := by
 simp [fK, iW, kI, jU h]
theorem vJ {i j n m x y : Nat} (h : x ≠ y) : fK ⟨i, [x], [x], n, n⟩ ⟨j, [y], [], m, m⟩ = false := by
 simp [fK, iW, kI, jU h]
theorem vI {i j n m x y : Nat} (h : x ≠ y) : fK ⟨i, [x], [x], n, n⟩ ⟨j, [y], [y], m, m⟩ = false := by
 simp [fK, iW, kI, jU h]
theorem vP {i j a b m x : Nat} (h : x < a ∨ b ≤ x) : fK ⟨i, [], [], a, b⟩ ⟨j, [x], [x], m, m⟩ = false := by
 have : within a b x = false := by
  unfold within
  rcases h with h | h
  ·rw [iE (by omega)]; rfl
  ·rw [show x.blt b = false from iE (by omega)]; simp
 simp only [fK, iW, kI, this, List.any_nil, List.any_cons, Bool.or_false, Bool.false_or, Bool.or_self]
 cases a.beq b <;> simp [this]
theorem vH {i j a b m x : Nat} (h : x < a ∨ b ≤ x) : fK ⟨i, [x], [], m, m⟩ ⟨j, [], [], a, b⟩ = false := by
 have : within a b x = false := by
  unfold within
  rcases h with h | h
  ·rw [iE (by omega)]; rfl
  ·rw [show x.blt b = false from iE (by omega)]; simp
 simp only [fK, iW, kI, this, List.any_nil, List.any_cons, Bool.or_false, Bool.false_or, Bool.or_self]
 cases a.beq b <;> simp [this]
theorem vO {i j a b m x : Nat} (h : x < a ∨ b ≤ x) : fK ⟨i, [], [], a, b⟩ ⟨j, [x], [], m, m⟩ = false := by
 have : within a b x = false := by
  unfold within
  rcases h with h | h
  ·rw [iE (by omega)]; rfl
  ·rw [show x.blt b = false from iE (by omega)]; simp
 simp only [fK, iW, kI, this, List.any_nil, List.any_cons, Bool.or_false, Bool.false_or, Bool.or_self]
 cases a.beq b <;> simp [this]
end Go.Am
set_option linter.unusedSimpArgs false
set_option linter.unusedVariables false
set_option linter.defProp false
namespace Go.Am
open Go
variable {P : Program} {f : FuncId}
end Go.Am
set_option linter.unusedSimpArgs false
set_option linter.unusedVariables false
set_option linter.defProp false
namespace Go.Am
open Go
end Go.Am
set_option linter.unusedSimpArgs false
set_option linter.unusedVariables false
set_option linter.defProp false
namespace Go.Am
open Go Go.RowKit
variable {E : Env} {fn : FuncId} {rnd : Option Nat} {Q : dM} {ks : List Kf} {tm : List aA} {h : Hp} {n : Nat} {ops bM : List Oper} {d : Option Tmp}
def S2 (k : IntKind) (m : Nat) (g : Nat → Int) : List aA := (List.range m).map fun j => .int k (g j)
theorem P5 (xs : List aA) (v : aA) : ∀ (i j : Nat), (put xs i v)[j]? = if j = i ∧ i < xs.length then some v else xs[j]? := by
 induction xs with
 | nil => intro i j; simp [put]
 | cons a xs ih =>
  intro i j
  cases i with
  | zero => cases j <;> simp [put]
  | succ i =>
   cases j with
   | zero => simp [put]
   | succ j => simp only [put, List.getElem?_cons_succ, ih i j, List.length_cons]; simp
def KQ (k : IntKind) (h : Hp) (v : aA) (id off m tot : Nat) (g : Nat → Int) : Prop := (∃ cap, v = .sl id off m cap 1) ∧ off + m ≤ tot ∧ ∃ e, h id = some (.row (.l (S2 k tot g)) e)
theorem KQ.aO {k : IntKind} {v : aA} {id off m tot : Nat} {g : Nat → Int} {h' : Hp} (hi : KQ k h v id off m tot g) (hk : h' id = h id) : KQ k h' v id off m tot g := by
 obtain ⟨a, b, e, c⟩ := hi
 exact ⟨a, b, e, hk.trans c⟩
theorem KQ.idx {k : IntKind} {v : aA} {id off m tot : Nat} {g : Nat → Int} (hi : KQ k h v id off m tot g) {t e : TypeId} (ht : und E t = M.pure (.slice e)) (he : sizeOf E e = M.pure 1) {kk : IntKind} {z : Int} {j : Nat} (hz : z = (j : Nat)) (hj : j < m) {h' : Hp} {n' : Nat} : Rd (indexAddr E t v (.int kk z)) h' n' [] (.ptr id (off + j)) := by
 obtain ⟨⟨cap, rfl⟩, _⟩ := hi
 subst hz
 simp only [indexAddr, ht, he, aI, dF, slK, Go.Am.idx, bind_assoc, Nat.beq_refl, Int.toNat_natCast, Nat.mul_one]
 exact Rd.bind (i2 := []) (Rd.ob (by simp; omega)) (Rd.pure _)
def bit (a j : Nat) : Int := ((a / 2 ^ j % 2 : Nat) : Int)
end Go.Am
set_option linter.unusedSimpArgs false
set_option linter.unusedVariables false
set_option linter.defProp false
namespace Go.Am
open Go Go.RowKit
variable {E : Env} {fn : FuncId} {rnd : Option Nat} {Q : dM} {ks : List Kf} {tm : List aA} {h : Hp} {n : Nat} {ops bM : List Oper} {d : Option Tmp}
def Row (h : Hp) (id : Nat) (xs : List aA) : Prop := ∃ e, h id = some (.row (.l xs) e)
theorem Row.aO {h h' : Hp} {id : Nat} {xs : List aA} (hr : Row h id xs) (hk : h' id = h id) : Row h' id xs := by
 obtain ⟨e, he⟩ := hr
 exact ⟨e, hk.trans he⟩
theorem Row.upd {h : Hp} {id i : Nat} {xs : List aA} {b : Option Blk} (hr : Row h id xs) (hk : id ≠ i) : Row (Go.Am.upd h i b) id xs := hr.aO (aP _ _ hk)
theorem Row.new (h : Hp) (id : Nat) (xs : List aA) (e : TypeId) : Row (Go.Am.upd h id (some (.row (.l xs) e))) id xs := ⟨e, bE _ _ _⟩
def bV (xs : List aA) (off : Nat) (vs : List aA) : List aA := xs.take off ++ (vs ++ xs.drop (off + vs.length))
theorem eA {xs vs : List aA} {off : Nat} (h : off + vs.length ≤ xs.length) : (bV xs off vs).length = xs.length := by
 unfold bV
 simp only [List.length_append, List.length_take, List.length_drop]
 omega
theorem gY {xs vs : List aA} (h : vs.length = xs.length) : bV xs 0 vs = vs := by
 unfold bV
 rw [List.take_zero, List.nil_append, Nat.zero_add, h, List.drop_length, List.append_nil]
theorem iN {xs vs : List aA} {off : Nat} (h : off + vs.length ≤ xs.length) (j : Nat) : (bV xs off vs)[j]? = if off ≤ j ∧ j < off + vs.length then vs[j - off]? else xs[j]? := by
 unfold bV
 by_cases a : j < off
 ·rw [if_neg (by omega), List.getElem?_append_left (by rw [List.length_take]; omega), List.getElem?_take, if_pos a]
 ·rw [List.getElem?_append_right (by rw [List.length_take]; omega), List.length_take, Nat.min_eq_left (by omega)]
  by_cases b : j < off + vs.length
  ·rw [if_pos (by omega), List.getElem?_append_left (by omega)]
  ·rw [if_neg (by omega), List.getElem?_append_right (by omega), List.getElem?_drop]
   congr 1; omega
theorem nU : ∀ (xs : List aA) (j : Nat), j < xs.length → xs[j]? = some (nth xs j .aB)
 | [], j, h => by simp at h
 | a :: xs, 0, _ => rfl
 | a :: xs, j + 1, h => by
  rw [List.getElem?_cons_succ]
  simp only [nth]
  exact nU xs j (by simpa using h)
theorem kU (vs : List aA) : ∀ (xs : List aA) (off : Nat), off + vs.length ≤ xs.length → kV (.l xs) off vs = .l (bV xs off vs) := by
 induction vs with
 | nil =>
  intro xs off h
  simp [kV, bV]
 | cons v vs ih =>
  intro xs off h
  simp only [List.length_cons] at h
  simp only [kV, bH.set]
  rw [ih (put xs off v) (off + 1) (by rw [yJ]; omega)]
  congr 1
  refine List.ext_getElem? fun j => ?_
  rw [iN (by rw [yJ]; omega), iN (by simp only [List.length_cons]; omega), P5]
  by_cases a : j = off
  ·subst a
   rw [if_neg (by omega), if_pos (by omega), if_pos (by simp), Nat.sub_self]; rfl
  ·by_cases b : off + 1 ≤ j ∧ j < off + 1 + vs.length
   ·rw [if_pos b, if_pos (by simp only [List.length_cons]; omega), show j - off = (j - (off + 1)) + 1 by omega, List.getElem?_cons_succ]
   ·have : (v :: vs).length = vs.length + 1 := rfl
    rw [if_neg b, if_neg (by omega), if_neg (by omega)]
theorem Row.one {id off : Nat} {t : TypeId} {i : TI} {cs : List aA} {x : aA} (hr : Row h id cs) (hc : cs[off]? = some x) (hi : ti E t = M.pure i) (ha : eR i.desc = false) : Rd (Go.Am.load E t (.ptr id off)) h n [id] x := by
 obtain ⟨e, hh⟩ := hr
 exact pD hh hc hi ha
theorem Row.agg {id off : Nat} {t : TypeId} {i : TI} {cs : List aA} (hr : Row h id cs) (hi : ti E t = M.pure i) (ha : eR i.desc = true) (ho : off + i.size ≤ cs.length) : Rd (Go.Am.load E t (.ptr id off)) h n [id] (.agg ((cs.drop off).take i.size)) := by
 obtain ⟨e, hh⟩ := hr
 simp only [Go.Am.load, hi, aI, ha, aZ, bind_assoc]
 refine Rd.bind (i2 := []) (Rd.get hh) ?_
 simp only [cW, bind_assoc, bH.size, bH.sub]
 refine Rd.bind (i2 := []) (Rd.ob (dQ ho)) ?_
 exact Rd.pure _
theorem Row.j9 {id : Nat} {t : TypeId} {i : TI} {cs : List aA} (hr : Row h id cs) (hi : ti E t = M.pure i) (ha : eR i.desc = true) (ho : cs.length = i.size) : Rd (Go.Am.load E t (.ptr id 0)) h n [id] (.agg cs) := by
 have := hr.agg (n := n) (off := 0) hi ha (by omega)
 rwa [List.drop_zero, ← ho, List.take_length] at this
theorem Row.fH {id off e : Nat} {t : TypeId} {i : TI} {cs : List aA} {v : aA} (hh : h id = some (.row (.l cs) e)) (hi : ti E t = M.pure i) (hs : v.cells.length = i.size) (ho : off + i.size ≤ cs.length) (hc : v.cells.all bK = true) :
  Wr (kL E t (.ptr id off) v) h n [id] [id] undef (Go.Am.upd h id (some (.row (.l (bV cs off v.cells)) e))) := by
 simp only [kL, Go.Am.store, hi, aI, hs, Nat.beq_refl, dS]
 refine Wr.ret (a := ()) ?_
 refine Wr.bind (rs := []) (Rd.get hh) ?_
 simp only [cW, bH.size]
 refine Wr.bind (rs := []) (i1 := []) (Rd.ob (dQ (by omega))) ?_
 simp only [hc]
 rw [kU _ _ _ (by omega)]
 exact Wr.set hh
theorem Wr.wp {α : Type} {m : M α} {rs ws : List Nat} {v : α} {h2 : Hp} (hr : Wr m h n rs ws v h2) : Wp m h n fun a h' n' => a = v ∧ h' = h2 ∧ n' = n := by
 obtain ⟨s', o, e, a, b, c, d, w, g, q⟩ := hr.r _ (lH h n)
 exact fE.2 ⟨v, s', ⟨e, ⟨o, g, q⟩, c⟩, rfl, a, by rw [b]; rfl⟩
theorem eQ {m : M aA} {rs ws : List Nat} {v : aA} {h2 : Hp} (hr : Wr m h n rs ws v h2) :
  OpV E fn rnd Q ks ops bM d tm m h n ↔ Ops E fn rnd Q ks ops bM (cE tm d v) h2 n := tM hr.wp _ _ _ _ _ _ _ _ _
theorem fI {t : TypeId} {i : TI} (hi : ti E t = M.pure i) (hj : eI i.zero = false) :
  OpV E fn rnd Q ks ops bM d tm (cB E t) h n ↔ Ops E fn rnd Q ks ops bM (cE tm d (.ptr n 0)) (Go.Am.upd h n (some (.row (.l i.zero.cells) t))) (n + 1) := by
 simp only [cB, cF, hi, aI, alloc, hj, newRow, bind_assoc, tL, rA]
theorem pW {t e : TypeId} {id off len sz : Nat} {cap : Option Nat} {kk : IntKind} {z : Int} {j : Nat} (ht : und E t = M.pure (.slice e)) (he : sizeOf E e = M.pure sz) (hz : z = (j : Nat)) (hj : j < len) {h' : Hp} {n' : Nat} :
  Rd (indexAddr E t (.sl id off len cap sz) (.int kk z)) h' n' [] (.ptr id (off + j * sz)) := by
 subst hz
 simp only [indexAddr, ht, he, aI, dF, slK, Nat.beq_refl, Go.Am.idx, bind_assoc, Int.toNat_natCast]
 exact Rd.bind (i2 := []) (Rd.ob (by simp; omega)) (Rd.pure _)
theorem MA {t e : TypeId} {off len sz : Nat} {f : Nat → aA} {kk : IntKind} {z : Int} {j : Nat} (ht : und E t = M.pure (.slice e)) (he : sizeOf E e = M.pure sz) (hz : z = (j : Nat)) (hj : j < len) {h' : Hp} {n' : Nat} :
  Rd (indexAddr E t (.isl f sz off len) (.int kk z)) h' n' [] (.ip f (off + len * sz) (off + j * sz)) := by
 subst hz
 simp only [indexAddr, ht, he, aI, dF, slK, Nat.beq_refl, Go.Am.idx, bind_assoc, Int.toNat_natCast]
 exact Rd.bind (i2 := []) (Rd.ob (by simp; omega)) (Rd.pure _)
theorem AA (z : List aA) : ∀ m, (gI z m).length = m * z.length := by
 intro m
 induction m with
 | zero => simp [gI]
 | succ m ih => simp only [gI, List.length_append, ih, Nat.succ_mul]; omega
theorem GX {z : List aA} (hz : z.all bK = true) : ∀ m, (gI z m).all bK = true := by
 intro m
 induction m with
 | zero => rfl
 | succ m ih => simp only [gI, List.all_append, hz, ih]; rfl
theorem KK {xs : List aA} (hx : ∀ (j : Nat) (x : aA), xs[j]? = some x → bK x = true) : xs.all bK = true := by
 rw [List.all_eq_true]
 intro x hm
 obtain ⟨j, hj⟩ := List.getElem?_of_mem hm
 exact hx j x hj
theorem kC {t : TypeId} {i : TI} {z : List aA} {v : aA} (hi : ti E t = M.pure i) (hz : z.length = i.size) (hv : v.cells.length = i.size) (h1 : v.cells.all bK = true) (hf : bI h n)
  (hq : ∀ H, Row H n v.cells → (∀ j, j ≠ n → H j = h j) → bI H (n + 1) → Ops E fn rnd Q ks ops bM (cE tm d undef) H (n + 1)) :
  OpV E fn rnd Q ks ops bM d tm (kL E t (.ptr n 0) v) (Go.Am.upd h n (some (.row (.l z) t))) (n + 1) := by
 have hw := Row.fH (E := E) (v := v) (n := n + 1) (off := 0) (bE h n (some (.row (.l z) t))) hi hv (by omega) h1
 rw [gY (hv.trans hz.symm)] at hw
 rw [eQ hw]
 exact hq _ (Row.new _ _ _ _) (fun j hj => by rw [aP _ _ hj, aP _ _ hj]) (hf.new.upd (by omega))
theorem cL {t : TypeId} {i : TI} {v : aA} (hi : ti E t = M.pure i) (hj : eI v = false) (hf : bI h n)
  (hq : ∀ H, Row H n v.cells → (∀ j, j ≠ n → H j = h j) → bI H (n + 1) → Ops E fn rnd Q ks ops bM (cE tm d (.ptr n 0)) H (n + 1)) :
  OpV E fn rnd Q ks ops bM d tm (alloc E t v) h n := by
 simp only [alloc, hj, newRow, hi, aI, bind_assoc, tL, rA]
 exact hq _ (Row.new _ _ _ _) (fun j hj => aP _ _ hj) hf.new
def only (S : Nat → Bool) (h : Hp) : Hp := fun j => match S j with
 | true => h j
 | false => none
theorem fN {S : Nat → Bool} {h : Hp} {j : Nat} (hj : S j = true) : only S h j = h j := by simp only [only, hj]
theorem nT {S : Nat → Bool} {h : Hp} {j : Nat} (hj : S j = false) : only S h j = none := by simp only [only, hj]
theorem Row.only {S : Nat → Bool} {h : Hp} {id : Nat} {xs : List aA} (hr : Row h id xs) (hs : S id = true) : Row (Go.Am.only S h) id xs := hr.aO (fN hs)
theorem bI.only {S : Nat → Bool} {h : Hp} {n : Nat} (hf : bI h n) : bI (Go.Am.only S h) n := fun id hi => by
 cases hs : S id with
 | true => rw [fN hs]; exact hf id hi
 | false => exact nT hs
theorem CX {m : M aA} {Q0 : aA → Hp → Nat → Prop} {S : Nat → Bool} (j : Nat) (hf : bI h n) (hw0 : Wp m (only S h) n Q0) :
  ∃ v s' r w, (jP j m).run (at0 h n) = .ok (v, ⟨j, r, w, n, s'.next⟩) s' ∧ (∃ o, s'.obs = o ++ (at0 h n).obs ∧ o.all id = true) ∧ s'.orc = none ∧ n ≤ s'.next ∧ bI s'.heap.get s'.next ∧
   (∀ id, id ∈ r → S id = true) ∧ (∀ id, id ∈ w → S id = true) ∧ (∀ k, k < n → S k = false → s'.heap.get k = h k) ∧
   ∃ hr, Q0 v hr s'.next ∧ (∀ k, S k = true ∨ n ≤ k → s'.heap.get k = hr k) := by
 obtain ⟨v, s0, he0, hq0, hn0, hf0⟩ := fE.1 (hw0.zA hf.only)
 obtain ⟨r, w, o, dd⟩ := m.loc _ _ _ he0.run
 have hrn : ∀ id, id ∈ r → S id = true ∨ New (at0 (only S h) n) s0 id := fun id hid => by
  rcases dd.uF id hid with hh | hh
  ·refine .inl ?_
   cases hs : S id with
   | true => rfl
   | false => exact absurd (nT hs) hh
  ·exact .inr hh
 have hwn : ∀ id, id ∈ w → S id = true ∨ New (at0 (only S h) n) s0 id := fun id hid => by
  rcases dd.dJ id hid with hh | hh
  ·refine .inl ?_
   cases hs : S id with
   | true => rfl
   | false => exact absurd (nT hs) hh
  ·exact .inr hh
 have same : ∀ id, S id = true ∨ New (at0 (only S h) n) s0 id → h id = only S h id := fun id hid => by
  rcases hid with hid | hid
  ·rw [fN hid]
  ·rw [hf id hid.1, hf.only id hid.1]
 obtain ⟨t', e, g1, g2, g3, g4, g5, g6, g7⟩ := dd.rR { at0 h n with rds := [], wrs := [] } rfl rfl (fun id hid => by
  refine same id ?_
  rcases hid with hid | hid | hid
  ·exact hrn id hid
  ·exact hwn id hid
  ·exact .inr hid)
 have e' : m.run { at0 h n with rds := [], wrs := [] } = .ok v t' := e
 have hfoot : (jP j m).run (at0 h n) = .ok (v, ⟨j, t'.rds.filter (old n t'.next), t'.wrs.filter (old n t'.next), n, t'.next⟩) { t' with rds := t'.rds ++ (at0 h n).rds, wrs := t'.wrs ++ (at0 h n).wrs } := by
  simp only [jP, lD, e']; rfl
 have hq : ∀ l : List Nat, (∀ id, id ∈ l → S id = true ∨ New (at0 (only S h) n) s0 id) → ∀ id, id ∈ l.filter (old n t'.next) → S id = true := fun l hl id hid => by
  obtain ⟨h1, h2⟩ := List.mem_filter.1 hid
  rcases hl id h1 with q | q
  ·exact q
  ·exfalso
   unfold old at h2
   have q1 : n ≤ id := q.1
   have q2 := q.2
   rw [g1] at h2
   rcases Bool.or_eq_true_iff.1 h2 with a | a
   ·have := Nat.le_of_ble_eq_true a; omega
   ·have := Nat.le_of_ble_eq_true a; omega
 have ho : ∃ o, t'.obs = o ++ (at0 h n).obs ∧ o.all id = true := by
  obtain ⟨o2, ho2, ho3⟩ := he0.obs
  have : o = o2 := by
   have := dd.obs
   rw [ho2] at this
   exact (List.append_cancel_right this).symm
  exact ⟨o, g5, by rw [this]; exact ho3⟩
 have g3' : t'.rds = r := by rw [g3]; exact List.append_nil _
 have g4' : t'.wrs = w := by rw [g4]; exact List.append_nil _
 refine ⟨v, { t' with rds := t'.rds ++ (at0 h n).rds, wrs := t'.wrs ++ (at0 h n).wrs }, _, _, hfoot, ho, by show t'.orc = none; rw [g2]; exact he0.oc, by show n ≤ t'.next; rw [g1]; exact hn0, ?_, ?_, ?_, ?_, s0.heap.get, ?_, ?_⟩
 ·intro id hid
  show t'.heap.get id = none
  have hid' : s0.next ≤ id := by rw [← g1]; exact hid
  by_cases c : id ∈ w
  ·rw [g6 id (.inl c)]; exact hf0 id hid'
  ·have c2 : ¬ New (at0 (only S h) n) s0 id := fun q => by have := q.2; omega
   rw [g7 id c c2]
   exact hf id (by omega)
 ·exact hq _ (by rw [g3']; exact hrn)
 ·exact hq _ (by rw [g4']; exact hwn)
 ·intro k hk hs
  show t'.heap.get k = h k
  refine (g7 k (fun q => ?_) (fun q => ?_))
  ·rcases hwn k q with q | q
   ·rw [hs] at q; cases q
   ·have q1 : n ≤ k := q.1; omega
  ·have q1 : n ≤ k := q.1; omega
 ·rw [show ({ t' with rds := t'.rds ++ (at0 h n).rds, wrs := t'.wrs ++ (at0 h n).wrs } : St).next = s0.next from g1]
  exact hq0
 ·intro k hk
  show t'.heap.get k = s0.heap.get k
  by_cases c : k ∈ w ∨ New (at0 (only S h) n) s0 k
  ·exact g6 k c
  ·simp only [not_or] at c
   rw [g7 k c.1 c.2, dd.bM k c.1 c.2]
   show h k = only S h k
   rcases hk with hk | hk
   ·rw [fN hk]
   ·rw [hf k hk, hf.only k hk]
theorem jE {j : Nat} {fs : List gA} {m : M aA} {Q0 : aA → Hp → Nat → Prop} (S : Nat → Bool) (hf : bI h n) (hw0 : Wp m (only S h) n Q0)
  (hq : ∀ v h' n' r w hr, n ≤ n' → bI h' n' → Q0 v hr n' → (∀ k, S k = true ∨ n ≤ k → h' k = hr k) → (∀ k, k < n → S k = false → h' k = h k) → (∀ id, id ∈ r → S id = true) → (∀ id, id ∈ w → S id = true) →
   Fe E fn rnd Q ks ops (j + 1) bM (cE tm d v) (⟨j, r, w, n, n'⟩ :: fs) h' n') : FeV E fn rnd Q ks ops j bM d tm fs m h n := by
 unfold FeV
 obtain ⟨v, s', r, w, h1, h2, h3, h4, h5, h6, h7, h8, hr, h9, h10⟩ := CX j hf hw0
 exact fE.2 ⟨_, _, ⟨h1, h2, h3⟩, hq v _ _ r w hr h4 h5 h9 h10 h8 h6 h7⟩
theorem FB {x : Nat} {w : List Nat} (h : x ∉ w) : iW [x] w = false := by
 unfold iW
 rw [List.any_cons, List.any_nil, Bool.or_false, List.any_eq_false]
 intro y hy
 rw [jU (fun e => h (by rw [e]; exact hy))]; simp
theorem C8 {x : Nat} {w : List Nat} (h : x ∉ w) : iW w [x] = false := by
 unfold iW
 rw [List.any_eq_false]
 intro y hy
 rw [List.any_cons, List.any_nil, Bool.or_false, jU (fun e => h (by rw [← e]; exact hy))]; simp
theorem AU {x : Nat} {f : gA} (h : x < f.lo ∨ f.hi ≤ x) : kI [x] f = false := by
 unfold kI
 cases f.lo.beq f.hi with
 | true => rfl
 | false =>
  simp only [List.any_cons, List.any_nil, Bool.or_false, within]
  rcases h with h | h
  ·rw [iE (by omega)]; rfl
  ·rw [show x.blt f.hi = false from iE (by omega), Bool.and_false]
theorem JN {i j a b m x : Nat} {r w : List Nat} (h : x < a ∨ b ≤ x) (hx : x ∉ w) : fK ⟨i, [x], [], m, m⟩ ⟨j, r, w, a, b⟩ = false := by
 unfold fK
 simp only [kP, FB hx, AU (x := x) (f := ⟨j, r, w, a, b⟩) h, lB, mB, Bool.or_false]
theorem JO {i j a b m x : Nat} {r w : List Nat} (h : x < a ∨ b ≤ x) (hx : x ∉ w) : fK ⟨j, r, w, a, b⟩ ⟨i, [x], [], m, m⟩ = false := by
 unfold fK
 simp only [jO, C8 hx, AU (x := x) (f := ⟨j, r, w, a, b⟩) h, lB, mB, Bool.or_false]
theorem jM {S : Nat → Bool} {w : List Nat} {x : Nat} (hw : ∀ id, id ∈ w → S id = true) (hx : S x = false) : x ∉ w := fun q => by
 have := hw x q
 rw [hx] at this; cases this
theorem Wp.frame {α : Type} {m : M α} {Q0 : α → Hp → Nat → Prop} (S : Nat → Bool) (hf : bI h n) (hw0 : Wp m (only S h) n Q0) :
  Wp m h n fun v h' n' => n ≤ n' ∧ bI h' n' ∧ (∀ k, k < n → S k = false → h' k = h k) ∧ ∃ hr, Q0 v hr n' ∧ (∀ k, S k = true ∨ n ≤ k → h' k = hr k) := by
 obtain ⟨v, s0, he0, hq0, hn0, hf0⟩ := fE.1 (hw0.zA hf.only)
 obtain ⟨r, w, o, dd⟩ := m.loc _ _ _ he0.run
 have hrn : ∀ id, id ∈ r → S id = true ∨ New (at0 (only S h) n) s0 id := fun id hid => by
  rcases dd.uF id hid with hh | hh
  ·refine .inl ?_
   cases hs : S id with
   | true => rfl
   | false => exact absurd (nT hs) hh
  ·exact .inr hh
 have hwn : ∀ id, id ∈ w → S id = true ∨ New (at0 (only S h) n) s0 id := fun id hid => by
  rcases dd.dJ id hid with hh | hh
  ·refine .inl ?_
   cases hs : S id with
   | true => rfl
   | false => exact absurd (nT hs) hh
  ·exact .inr hh
 have same : ∀ id, S id = true ∨ New (at0 (only S h) n) s0 id → h id = only S h id := fun id hid => by
  rcases hid with hid | hid
  ·rw [fN hid]
  ·rw [hf id hid.1, hf.only id hid.1]
 obtain ⟨t', e, g1, g2, g3, g4, g5, g6, g7⟩ := dd.rR (at0 h n) rfl rfl (fun id hid => by
  refine same id ?_
  rcases hid with hid | hid | hid
  ·exact hrn id hid
  ·exact hwn id hid
  ·exact .inr hid)
 have ho : ∃ o, t'.obs = o ++ (at0 h n).obs ∧ o.all id = true := by
  obtain ⟨o2, ho2, ho3⟩ := he0.obs
  have : o = o2 := by
   have := dd.obs
   rw [ho2] at this
   exact (List.append_cancel_right this).symm
  exact ⟨o, g5, by rw [this]; exact ho3⟩
 refine fE.2 ⟨v, t', ⟨e, ho, by rw [g2]; exact he0.oc⟩, by rw [g1]; exact hn0, ?_, ?_, s0.heap.get, ?_, ?_⟩
 ·intro id hid
  have hid' : s0.next ≤ id := by rw [← g1]; exact hid
  by_cases c : id ∈ w
  ·rw [g6 id (.inl c)]; exact hf0 id hid'
  ·have c2 : ¬ New (at0 (only S h) n) s0 id := fun q => by have := q.2; omega
   rw [g7 id c c2]
   exact hf id (by omega)
 ·intro k hk hs
  refine (g7 k (fun q => ?_) (fun q => ?_))
  ·rcases hwn k q with q | q
   ·rw [hs] at q; cases q
   ·have q1 : n ≤ k := q.1; omega
  ·have q1 : n ≤ k := q.1; omega
 ·rw [g1]; exact hq0
 ·intro k hk
  by_cases c : k ∈ w ∨ New (at0 (only S h) n) s0 k
  ·exact g6 k c
  ·simp only [not_or] at c
   rw [g7 k c.1 c.2, dd.bM k c.1 c.2]
   show h k = only S h k
   rcases hk with hk | hk
   ·rw [fN hk]
   ·rw [hf k hk, hf.only k hk]
end Go.Am
set_option linter.unusedSimpArgs false
set_option linter.unusedVariables false
set_option linter.defProp false
namespace Go.Am
open Go Go.RowKit
variable {E : Env} {fn : FuncId} {rnd : Option Nat} {Q : dM} {ks : List Kf} {tm : List aA} {h : Hp} {n : Nat} {ops bM : List Oper} {d : Option Tmp}
inductive Rds (h : Hp) (sz : Nat) : aA → Nat → List aA → Prop
 | aT : Rds h sz .aT 0 []
 | emp : Rds h sz .emp 0 []
 | isl (f : Nat → aA) (off cnt : Nat) (xs : List aA) (hl : xs.length = cnt * sz) (hf : ∀ j (hj : j < xs.length), f (off + j) = xs[j]) : Rds h sz (.isl f sz off cnt) cnt xs
 | sl (id off cnt : Nat) (cap : Option Nat) (c : bH) (e : TypeId) (xs : List aA) (hh : h id = some (.row c e)) (hl : xs.length = cnt * sz) (hs : off + xs.length ≤ c.size) (hc : ∀ j (hj : j < xs.length), c.at (off + j) = xs[j]) : Rds h sz (.sl id off cnt cap sz) cnt xs
def rid (v : aA) : List Nat := (aL v).toList
theorem Rds.length {sz cnt : Nat} {v : aA} {xs : List aA} (hr : Rds h sz v cnt xs) : xs.length = cnt * sz := by
 cases hr with
 | aT => simp
 | emp => simp
 | isl f off cnt xs hl hf => exact hl
 | sl id off cnt cap c e xs hh hl hs hc => exact hl
theorem Rds.len {sz cnt : Nat} {v : aA} {xs : List aA} (hr : Rds h sz v cnt xs) : lenOf v = M.pure cnt := by cases hr <;> rfl
theorem Rds.cP {sz cnt : Nat} {v : aA} {xs : List aA} (hr : Rds h sz v cnt xs) {t : TypeId} {ts : List TypeId} {e : TypeId} (ht : und E t = M.pure (.slice e)) : cP E (t :: ts) v = M.pure (.int .i64 (cnt : Nat)) := by
 cases hr <;> simp only [Am.cP, ht, aI, lenOf] <;> rfl
theorem Rds.kind {sz cnt : Nat} {v : aA} {xs : List aA} (hr : Rds h sz v cnt xs) : v.cells = [v] ∧ bK v = true ∧ eI v = false := by cases hr <;> exact ⟨rfl, rfl, rfl⟩
theorem Rds.aO {sz cnt : Nat} {v : aA} {xs : List aA} {h' : Hp} (hr : Rds h sz v cnt xs) (hk : ∀ j, aL v = some j → h' j = h j) : Rds h' sz v cnt xs := by
 cases hr with
 | aT => exact .aT
 | emp => exact .emp
 | isl f off cnt xs hl hf => exact .isl f off cnt xs hl hf
 | sl id off cnt cap c e xs hh hl hs hc => exact .sl id off cnt cap c e xs ((hk id rfl).trans hh) hl hs hc
theorem Rds.idx {sz cnt : Nat} {v : aA} {xs : List aA} (hr : Rds h sz v cnt xs) {t e : TypeId} (ht : und E t = M.pure (.slice e)) (he : sizeOf E e = M.pure sz) {kk : IntKind} {z : Int} {j : Nat} (hz : z = (j : Nat)) (hj : j < cnt) {h' : Hp} {n' : Nat} :
  Rd (indexAddr E t v (.int kk z)) h' n' [] (eM (j * sz) v) := by
 cases hr with
 | aT => omega
 | emp => omega
 | isl f off cnt xs hl hf => exact MA ht he hz hj
 | sl id off cnt cap c e xs hh hl hs hc => exact pW ht he hz hj
theorem jN {v : aA} {sz cnt : Nat} {xs : List aA} (hr : Rds h sz v cnt xs) (hc : 0 < cnt) (k m : Nat) : aM m (eM k v) = M.pure (eM (k + m) v) := by
 cases hr with
 | aT => omega
 | emp => omega
 | isl f off cnt xs hl hf => simp only [eM, aM, Nat.add_assoc]
 | sl id off cnt cap c e xs hh hl hs hc => simp only [eM, aM, Nat.add_assoc]
theorem Rds.load {sz cnt : Nat} {v : aA} {xs : List aA} (hr : Rds h sz v cnt xs) {t : TypeId} {i : TI} (hi : ti E t = M.pure i) (ha : eR i.desc = false) {k : Nat} {x : aA} (hx : xs[k]? = some x) :
  Rd (load E t (eM k v)) h n (rid v) x := by
 obtain ⟨hk, hx⟩ := List.getElem?_eq_some_iff.1 hx
 cases hr with
 | aT => simp at hk
 | emp => simp at hk
 | isl f off cnt xs hl hf =>
  simp only [Go.Am.load, hi, aI, ha, aZ, bind_assoc, eM]
  refine Rd.bind (i1 := []) (i2 := []) (Rd.ob (dQ (by omega))) ?_
  rw [BF, hf k hk, hx]
  exact Rd.pure _
 | sl id off cnt cap c e xs hh hl hs hc =>
  simp only [Go.Am.load, hi, aI, ha, aZ, bind_assoc, eM]
  refine Rd.bind (i1 := [id]) (i2 := []) (Rd.get hh) ?_
  simp only [cW, bind_assoc]
  refine Rd.bind (i1 := []) (i2 := []) (Rd.ob (dQ (by omega))) ?_
  rw [bH.qR (by omega), hc k hk, hx]
  exact Rd.pure _
theorem Rds.agg {sz cnt : Nat} {v : aA} {xs : List aA} (hr : Rds h sz v cnt xs) {t : TypeId} {i : TI} (hi : ti E t = M.pure i) (ha : eR i.desc = true) (hz : 0 < i.size) {k : Nat} (hk : k + i.size ≤ xs.length) :
  Rd (Go.Am.load E t (eM k v)) h n (rid v) (.agg ((xs.drop k).take i.size)) := by
 have hlen : ((xs.drop k).take i.size).length = i.size := by rw [List.length_take, List.length_drop]; omega
 have hget : ∀ j (hj : j < ((xs.drop k).take i.size).length), ((xs.drop k).take i.size)[j] = xs[k + j]'(by omega) := fun j hj => by simp
 cases hr with
 | aT => simp at hk; omega
 | emp => simp at hk; omega
 | isl f off cnt xs hl hf =>
  simp only [Go.Am.load, hi, aI, ha, aZ, bind_assoc, eM]
  refine Rd.bind (i1 := []) (i2 := []) (Rd.ob (dQ (by omega))) ?_
  rw [jS f i.size (off + k) ((xs.drop k).take i.size) hlen (fun j hj => by rw [Nat.add_assoc, hf (k + j) (by omega), hget j hj])]
  exact Rd.pure _
 | sl id off cnt cap c e xs hh hl hs hc =>
  simp only [Go.Am.load, hi, aI, ha, aZ, bind_assoc, eM]
  refine Rd.bind (i1 := [id]) (i2 := []) (Rd.get hh) ?_
  simp only [cW, bind_assoc]
  refine Rd.bind (i1 := []) (i2 := []) (Rd.ob (dQ (by omega))) ?_
  have := bH.uB (c := c) (off := off + k) (l := (xs.drop k).take i.size) (by omega) (fun j hj => by rw [Nat.add_assoc, hc (k + j) (by omega), hget j hj])
  rw [hlen] at this
  rw [this]
  exact Rd.pure _
theorem Rds.cells {sz cnt : Nat} {v : aA} {xs : List aA} (hr : Rds h sz v cnt xs) : Rd (cU sz cnt v) h n (rid v) xs := by
 cases hr with
 | aT => exact Rd.bind (i1 := []) (i2 := []) (Rd.ob rfl) (Rd.pure _)
 | emp => exact Rd.bind (i1 := []) (i2 := []) (Rd.ob rfl) (Rd.pure _)
 | isl f off cnt xs hl hf =>
  simp only [cU, bL, Nat.beq_refl]
  refine Rd.bind (i1 := []) (i2 := []) (Rd.ob (dQ (Nat.le_refl _))) ?_
  rw [jS f (cnt * sz) off xs hl (fun j hj => hf j hj)]
  exact Rd.pure _
 | sl id off cnt cap c e xs hh hl hs hc =>
  simp only [cU, bL, Nat.beq_refl]
  refine Rd.bind (i1 := [id]) (i2 := []) (Rd.get hh) ?_
  simp only [cW]
  refine Rd.bind (i1 := []) (i2 := []) (Rd.ob (dQ (Nat.le_refl _))) ?_
  refine Rd.bind (i1 := []) (i2 := []) (Rd.ob (dQ (by omega))) ?_
  have := bH.uB (c := c) (off := off) (l := xs) hs hc
  rw [← hl, this]
  exact Rd.pure _
theorem Bytes.rds {v : aA} {l : List UInt8} (hb : Bytes h v l) : Rds h 1 v l.length (l.map u8) := by
 cases hb with
 | aT => exact .aT
 | isl f off l hf => exact .isl f off _ _ (by simp) (fun j hj => by rw [List.getElem_map]; exact hf j (by simpa using hj))
 | sl id off cap c e l hh hs hc => exact .sl id off _ cap c e _ hh (by simp) (by simpa using hs) (fun j hj => by rw [List.getElem_map]; exact hc j (by simpa using hj))
theorem Rds.bytes {v : aA} {cnt : Nat} {l : List UInt8} (hr : Rds h 1 v cnt (l.map u8)) (hn : v ≠ .emp) : Bytes h v l := by
 have hl := hr.length
 rw [List.length_map, Nat.mul_one] at hl
 generalize hx : l.map u8 = xs at hr
 cases hr with
 | aT =>
  have : l = [] := by simpa using hx
  subst this; exact .aT
 | emp => exact absurd rfl hn
 | isl f off cnt xs hl2 hf =>
  subst hl
  exact .isl f off l (fun j hj => by subst hx; rw [hf j (by simpa using hj), List.getElem_map])
 | sl id off cnt cap c e xs hh hl2 hs hc =>
  subst hl
  exact .sl id off cap c e l hh (by subst hx; simpa using hs) (fun j hj => by subst hx; rw [hc j (by simpa using hj), List.getElem_map])
inductive Lst (h : Hp) (e : TypeId) (sz : Nat) : aA → Nat → List aA → Prop
 | nil : Lst h e sz .aT 0 []
 | sl (id cnt : Nat) (cap : Option Nat) (cells xs : List aA) (hh : h id = some (.row (.l cells) e)) (hl : cnt * sz ≤ cells.length) (hc : ∀ k, cap = some k → cnt ≤ k ∧ k * sz ≤ cells.length) (hx : cells.take (cnt * sz) = xs) : Lst h e sz (.sl id 0 cnt cap sz) cnt xs
theorem Lst.rds {e : TypeId} {sz cnt : Nat} {v : aA} {xs : List aA} (ho : Lst h e sz v cnt xs) : Rds h sz v cnt xs := by
 cases ho with
 | nil => exact .aT
 | sl id cnt cap cells xs hh hl hc hx =>
  subst hx
  refine .sl id 0 cnt cap (.l cells) e _ hh (by rw [List.length_take]; omega) (by rw [List.length_take]; show 0 + _ ≤ cells.length; omega) (fun j hj => ?_)
  rw [List.length_take] at hj
  rw [Nat.zero_add, bH.vW (by omega), List.getElem_take]
theorem Lst.aO {e : TypeId} {sz cnt : Nat} {v : aA} {xs : List aA} {h' : Hp} (ho : Lst h e sz v cnt xs) (hk : ∀ j, aL v = some j → h' j = h j) : Lst h' e sz v cnt xs := by
 cases ho with
 | nil => exact .nil
 | sl id cnt cap cells xs hh hl hc hx => exact .sl id cnt cap cells xs ((hk id rfl).trans hh) hl hc hx
theorem Lst.dJ {e : TypeId} {sz cnt : Nat} {v : aA} {xs : List aA} (ho : Lst h e sz v cnt xs) (hf : bI h n) {j : Nat} (hj : aL v = some j) : j < n := by
 cases ho with
 | nil => cases hj
 | sl id cnt cap cells xs hh hl hc hx =>
  injection hj with hj
  subst hj
  by_cases q : id < n
  ·exact q
  ·rw [hf id (by omega)] at hh; cases hh
theorem yU {e : TypeId} {sz cnt : Nat} {cap : Option Nat} {xs : List aA} {id : Nat} (hh : h id = some (.row (.l xs) e)) (hl : xs.length = cnt * sz) (hc : ∀ k, cap = some k → k = cnt) : Lst h e sz (.sl id 0 cnt cap sz) cnt xs :=
 .sl id cnt cap xs xs hh (by omega) (fun k hk => by have := hc k hk; subst this; omega) (by rw [← hl, List.take_length])
theorem lL {xs ys : List aA} {a : Nat} (h : a + ys.length ≤ xs.length) : (bV xs a ys).take (a + ys.length) = xs.take a ++ ys := by
 unfold bV
 rw [← List.append_assoc, List.take_append_of_le_length (by rw [List.length_append, List.length_take]; omega), List.take_of_length_le (by rw [List.length_append, List.length_take]; omega)]
theorem iH {α β : Type} {m : M α} {f : α → M β} {ids : List Nat} {a : α} {Q2 : β → Hp → Nat → Prop} (hr : Rd m h n ids a) (hw : Wp (f a) h n Q2) : Wp (m.bind f) h n Q2 :=
 DK (cG hr.wp fun a' h' n' ⟨e1, e2, e3⟩ => by subst e1; subst e2; subst e3; exact hw)
theorem lV {Q1 : aA → Hp → Nat → Prop} {t t2 e : TypeId} {i : TI} {s x : aA} {cnt k : Nat} {xs ys : List aA} (hs : Lst h e i.size s cnt xs) (hx : Rds h i.size x k ys)
  (ht : und E t = M.pure (.slice e)) (ht2 : und E t2 = M.pure (.slice e)) (hi : ti E e = M.pure i) (hy : ys.all bK = true) (hz : 0 < i.size)
  (hroom : 2 * (cnt + k) * i.bytes ≤ 281474976710656) (hroom2 : cnt + k ≤ 281474976710656) (hf : bI h n)
  (hq : ∀ v' h' n', n ≤ n' → bI h' n' → Lst h' e i.size v' (cnt + k) (xs ++ ys) → (aL v' = aL s ∨ aL v' = some n ∧ n < n') → (∀ j, j < n → aL s ≠ some j → h' j = h j) → Q1 v' h' n') :
  Wp (fP E [t, t2] s x) h n Q1 := by
 have hyl := hx.length
 simp only [fP, ht2, aI, fD, append, ht, hi, hx.len, bind_assoc, gV]
 by_cases hk : k = 0
 ·subst hk
  have hy0 : ys = [] := List.eq_nil_of_length_eq_zero (by omega)
  subst hy0
  have key : Lst h e i.size s (cnt + 0) (xs ++ []) := by rw [List.append_nil]; exact hs
  have := hq s h n (Nat.le_refl _) hf key (.inl rfl) (fun _ _ _ => rfl)
  rw [Nat.beq_refl]
  cases hs <;> exact aS.2 this
 have hk0 : k.beq 0 = false := jU hk
 have hkz : 0 < k * i.size := Nat.mul_pos (by omega) hz
 simp only [hk0]
 refine iH hx.cells ?_
 have r1 : ((2 * (cnt + k) * i.bytes).ble room && (cnt + k).ble room) = true := by
  unfold room
  rw [dQ hroom, dQ hroom2]; rfl
 have oE : ∀ h1 : Hp, (∀ j, n ≤ j → h1 j = none) → (∀ j, j < n → aL s ≠ some j → h1 j = h j) → xs.length = cnt * i.size → Q1 (.sl n 0 (cnt + k) none i.size) (upd h1 n (some (.row (.l (xs ++ ys)) e))) (n + 1) := fun h1 hf1 ho1 hxl => by
  refine hq _ _ _ (by omega) (bI.new hf1) (yU (bE _ _ _) (by rw [List.length_append, hxl, hyl, Nat.add_mul]) (fun k hk => by cases hk)) (.inr ⟨rfl, by omega⟩) (fun j hj hn => ?_)
  rw [aP _ _ (by omega)]; exact ho1 j hj hn
 cases hs with
 | nil =>
  rw [Nat.zero_add] at r1
  simp only [iR, fQ, iT, aS, r1, true_and]
  have := oE h hf (fun _ _ _ => rfl) (by simp)
  simpa using this
 | sl id cnt cap cells xs hh hl hc hxs =>
  have hid : id < n := by
   by_cases q : id < n
   ·exact q
   ·rw [hf id (by omega)] at hh; cases hh
  have hxl : xs.length = cnt * i.size := by rw [← hxs, List.length_take]; omega
  have inplace : (cnt + k) * i.size ≤ cells.length → ∀ cap', (∀ j, cap' = some j → cnt + k ≤ j ∧ j * i.size ≤ cells.length) →
    Q1 (.sl id 0 (cnt + k) cap' i.size) (upd h id (some (.row (.l (bV cells (cnt * i.size) ys)) e))) n := fun hfit cap' hcap' => by
   rw [Nat.add_mul] at hfit
   have hsl := eA (xs := cells) (vs := ys) (off := cnt * i.size) (by omega)
   refine hq _ _ _ (Nat.le_refl _) (hf.upd hid) (.sl id (cnt + k) cap' _ _ (bE _ _ _) (by rw [hsl, Nat.add_mul]; omega) (fun j hj => by rw [hsl]; exact hcap' j hj) ?_) (.inl rfl) (fun j hj hn => aP _ _ (fun q => hn (by rw [q]; rfl)))
   rw [Nat.add_mul, ← hyl, lL (by omega), hxs]
  have hwr : ∀ {β : Type} (f : Unit → M β) (Q2 : β → Hp → Nat → Prop), (cnt + k) * i.size ≤ cells.length → Wp (f ()) (upd h id (some (.row (.l (bV cells (cnt * i.size) ys)) e))) n Q2 → Wp ((dS (.ptr id (0 + cnt * i.size)) ys).bind f) h n Q2 := fun f Q2 hfit hw => by
   rw [Nat.add_mul] at hfit
   have hb : (cnt * i.size + ys.length).ble cells.length = true := dQ (by omega)
   simp only [dS, Nat.zero_add, bind_assoc, gC, hh, Option.some.injEq, exists_eq_left', cW, fQ, bH.size, hb, hy, mI, true_and]
   rw [kU _ _ _ (by omega)]
   exact ⟨by simp, hw⟩
  have hrd : ∀ {β : Type} (f : List aA → M β) (Q2 : β → Hp → Nat → Prop), Wp (f xs) h n Q2 → Wp ((cU i.size cnt (.sl id 0 cnt cap i.size)).bind f) h n Q2 := fun f Q2 hw => by
   have := (Lst.sl (e := e) (sz := i.size) id cnt cap cells xs hh hl hc hxs).rds.cells (n := n)
   exact iH this hw
  simp only [bL, Nat.beq_refl, gC, hh, Option.some.injEq, exists_eq_left', cW]
  cases cap with
  | none =>
   simp only [gV, Nat.zero_add, bH.size]
   by_cases hfit : (cnt + k) * i.size ≤ cells.length
   ·rw [dQ hfit]
    simp only [fQ]
    refine ⟨Nat.ble_eq_true_of_le hz, ?_⟩
    have := hwr (fun _ => M.pure (aA.sl id 0 (cnt + k) none i.size)) Q1 hfit (aS.2 (inplace hfit none (fun j hj => by cases hj)))
    rwa [Nat.zero_add] at this
   ·rw [iE hfit]
    simp only [hy, Nat.beq_refl, Bool.and_self]
    refine hrd _ _ ?_
    simp only [y7, iR, fQ, iT, aS, r1, true_and, hh]
    refine ⟨by simp, oE (upd h id none) (fun j hj => by rw [aP _ _ (by omega)]; exact hf j hj) (fun j hj hn => aP _ _ (fun q => hn (by rw [q]; rfl))) hxl⟩
  | some m =>
   simp only [gV]
   obtain ⟨hc1, hc2⟩ := hc m rfl
   by_cases hfit : cnt + k ≤ m
   ·have hfit2 : (cnt + k) * i.size ≤ cells.length := Nat.le_trans (Nat.mul_le_mul_right _ hfit) hc2
    rw [dQ hfit]
    exact hwr _ _ hfit2 (aS.2 (inplace hfit2 (some m) (fun j hj => by injection hj with hj; subst hj; exact ⟨hfit, hc2⟩)))
   ·rw [iE hfit]
    refine hrd _ _ ?_
    simp only [iR, fQ, iT, aS, r1, true_and]
    exact oE h hf (fun _ _ _ => rfl) hxl
theorem fV {t t2 e : TypeId} {i : TI} {s x : aA} {cnt k : Nat} {xs ys : List aA} (hs : Lst h e i.size s cnt xs) (hx : Rds h i.size x k ys)
  (ht : und E t = M.pure (.slice e)) (ht2 : und E t2 = M.pure (.slice e)) (hi : ti E e = M.pure i) (hy : ys.all bK = true) (hz : 0 < i.size)
  (hroom : 2 * (cnt + k) * i.bytes ≤ 281474976710656) (hroom2 : cnt + k ≤ 281474976710656) (hf : bI h n)
  (hq : ∀ v' h' n', n ≤ n' → bI h' n' → Lst h' e i.size v' (cnt + k) (xs ++ ys) → (aL v' = aL s ∨ aL v' = some n ∧ n < n') → (∀ j, j < n → aL s ≠ some j → h' j = h j) → Ops E fn rnd Q ks ops bM (cE tm d v') h' n') :
  OpV E fn rnd Q ks ops bM d tm (fP E [t, t2] s x) h n := lV hs hx ht ht2 hi hy hz hroom hroom2 hf hq
theorem AY {xs : List aA} {a b j : Nat} (hj : j < ((xs.drop a).take b).length) : ((xs.drop a).take b)[j] = xs[a + j]'(by rw [List.length_take, List.length_drop] at hj; omega) := by simp
theorem Rds.sub {sz cnt : Nat} {v : aA} {xs : List aA} (hr : Rds h sz v cnt xs) {lo hi : Nat} (h1 : lo ≤ hi) (h2 : hi ≤ cnt) : Rds h sz (kS lo hi v) (hi - lo) ((xs.drop (lo * sz)).take ((hi - lo) * sz)) := by
 have hl := hr.length
 have hm : lo * sz + (hi - lo) * sz ≤ cnt * sz := by rw [← Nat.add_mul]; exact Nat.mul_le_mul_right _ (by omega)
 have hlen : ((xs.drop (lo * sz)).take ((hi - lo) * sz)).length = (hi - lo) * sz := by rw [List.length_take, List.length_drop]; omega
 cases hr with
 | aT =>
  have e1 : hi = 0 := by omega
  have e2 : lo = 0 := by omega
  subst e1; subst e2
  simpa [kS] using Rds.aT
 | emp =>
  have e1 : hi = 0 := by omega
  have e2 : lo = 0 := by omega
  subst e1; subst e2
  simpa [kS] using Rds.emp
 | isl f off cnt xs hl2 hf => exact .isl f _ _ _ hlen (fun j hj => by rw [AY hj, Nat.add_assoc]; exact hf _ _)
 | sl id off cnt cap c e xs hh hl2 hs hc => exact .sl id _ _ _ c e _ hh hlen (by omega) (fun j hj => by rw [AY hj, Nat.add_assoc]; exact hc _ _)
theorem Rds.z6 {sz cnt : Nat} {v : aA} {xs : List aA} (hr : Rds h sz v cnt xs) (ho : BQ v) {t e : TypeId} (ht : und E t = M.pure (.slice e)) (he : sizeOf E e = M.pure sz) {k2 : IntKind} {hi : Nat} {z2 : Int} (e2 : z2 = (hi : Nat)) (h2 : hi ≤ cnt) {n' : Nat} {h' : Hp} :
  Rd (slice E t v none (some (.int k2 z2)) none) h' n' [] (kS 0 hi v) := by
 subst e2
 cases hr with
 | aT =>
  have e1 : hi = 0 := by omega
  subst e1
  simp only [slice, ht, he, aI, cX, dF, bind_assoc]
  exact Rd.bind (i2 := []) (Rd.ob (by simp)) (Rd.pure _)
 | emp =>
  have e1 : hi = 0 := by omega
  subst e1
  simp only [slice, ht, he, aI, cX, dF, bind_assoc]
  exact Rd.bind (i2 := []) (Rd.ob (by simp)) (Rd.pure _)
 | isl f off cnt xs hl hf =>
  simp only [slice, ht, he, aI, cX, dF, bind_assoc, bL, Nat.beq_refl]
  exact Rd.bind (i2 := []) (Rd.ob (by simp; omega)) (Rd.pure _)
 | sl id off cnt cap c e xs hh hl hs hc =>
  cases cap with
  | none =>
   have hle : ((hi : Nat) : Int) ≤ ((cnt : Nat) : Int) := by omega
   simp only [slice, kZ, decide_eq_true hle, ht, he, aI, cX, dF, bind_assoc, bL, Nat.beq_refl]
   exact Rd.bind (i2 := []) (Rd.ob (by simp; omega)) (Rd.pure _)
  | some cc =>
   have hcc : cnt ≤ cc := ho
   simp only [slice, kZ, ht, he, aI, cX, dF, bind_assoc, bL, Nat.beq_refl]
   exact Rd.bind (i2 := []) (Rd.ob (by simp; omega)) (Rd.pure _)
theorem Rds.qQ {sz cnt : Nat} {v : aA} {xs : List aA} (hr : Rds h sz v cnt xs) {t e : TypeId} (ht : und E t = M.pure (.slice e)) (he : sizeOf E e = M.pure sz) {k1 : IntKind} {lo : Nat} {z1 : Int} (e1 : z1 = (lo : Nat)) (h2 : lo ≤ cnt) {n' : Nat} {h' : Hp} :
  Rd (slice E t v (some (.int k1 z1)) none none) h' n' [] (kS lo cnt v) := by
 subst e1
 cases hr with
 | aT =>
  have e2 : lo = 0 := by omega
  subst e2
  simp only [slice, ht, he, aI, cX, dF, bind_assoc]
  exact Rd.bind (i2 := []) (Rd.ob (by simp)) (Rd.pure _)
 | emp =>
  have e2 : lo = 0 := by omega
  subst e2
  simp only [slice, ht, he, aI, cX, dF, bind_assoc]
  exact Rd.bind (i2 := []) (Rd.ob (by simp)) (Rd.pure _)
 | isl f off cnt xs hl hf =>
  simp only [slice, ht, he, aI, cX, dF, bind_assoc, bL, Nat.beq_refl]
  exact Rd.bind (i2 := []) (Rd.ob (by simp; omega)) (Rd.pure _)
 | sl id off cnt cap c e xs hh hl hs hc =>
  cases cap with
  | none =>
   simp only [slice, kZ, ht, he, aI, cX, dF, bind_assoc, bL, Nat.beq_refl]
   exact Rd.bind (i2 := []) (Rd.ob (by simp; omega)) (Rd.pure _)
  | some cc =>
   simp only [slice, kZ, ht, he, aI, cX, dF, bind_assoc, bL, Nat.beq_refl]
   exact Rd.bind (i2 := []) (Rd.ob (by simp; omega)) (Rd.pure _)
theorem Lst.GU {e : TypeId} {sz cnt : Nat} {v : aA} {xs : List aA} (ho : Lst h e sz v cnt xs) : BQ v := by
 cases ho with
 | nil => trivial
 | sl id cnt cap cells xs hh hl hc hx =>
  cases cap with
  | none => trivial
  | some c => exact (hc c rfl).1
theorem Lst.pre {e : TypeId} {sz cnt : Nat} {v : aA} {xs : List aA} (ho : Lst h e sz v cnt xs) {hi : Nat} (h2 : hi ≤ cnt) : Lst h e sz (kS 0 hi v) hi (xs.take (hi * sz)) := by
 cases ho with
 | nil =>
  have : hi = 0 := by omega
  subst this
  simpa [kS] using Lst.nil
 | sl id cnt cap cells xs hh hl hc hx =>
  have hm := Nat.mul_le_mul_right sz h2
  have xe : cells.take (hi * sz) = xs.take (hi * sz) := by rw [← hx, List.take_take, Nat.min_eq_left hm]
  cases cap with
  | none =>
   simp only [kS, Nat.zero_mul, Nat.add_zero, Nat.sub_zero]
   exact .sl id hi none cells _ hh (by omega) (fun k hk => by cases hk) xe
  | some c =>
   simp only [kS, Nat.zero_mul, Nat.add_zero, Nat.sub_zero]
   have := hc c rfl
   exact .sl id hi (some c) cells _ hh (by omega) (fun k hk => by injection hk with hk; subst hk; exact ⟨by omega, this.2⟩) xe
theorem qO {id : Nat} {args : List aA} {l : lU} {Q1 : aA → Hp → Nat → Prop} (hl : h id = some (.loop l)) (hs : l.state = .ready) (ha : args.length.beq l.params.length = true)
  (hw : Run E l.fn (some id) (fun e tm1 h1 n1 => e = .normal ∧ ∃ l2, h1 id = some (.loop l2) ∧ l2.state = .ready ∧
   Run E l.fn (some id) (fun e2 tm2 h2 n2 => ∃ l3, h2 id = some (.loop l3) ∧
    Q1 (.gG (sT e2)) (Go.Am.upd h2 id (some (.loop { l3 with state := (match sT e2 with | true => .ready | false => .done), pending := sG e2 }))) n2)
    l.body [] tm1 (Go.Am.upd h1 id (some (.loop { l2 with state := .busy }))) n1) l.assign [] (mM l.tmps (l.params.zip args)) h n) :
  Wp (nF E (aX E) (.fn (.yield id) [] []) args) h n Q1 := by
 simp only [nF, qN]
 refine gC.2 ⟨_, hl, ?_⟩
 simp only [dI, ha, hs, dG]
 refine cG hw fun r h1 n1 hr => ?_
 obtain ⟨e, tm1⟩ := r
 obtain ⟨he, l2, hl2, hs2, hb⟩ := hr
 subst he
 refine gC.2 ⟨_, hl2, ?_⟩
 simp only [dI, hs2]
 refine mI.2 ⟨by rw [hl2]; simp, ?_⟩
 refine dG.2 (cG hb fun r2 h2 n2 hr2 => ?_)
 obtain ⟨e2, tm2⟩ := r2
 obtain ⟨l3, hl3, hq⟩ := hr2
 refine gC.2 ⟨_, hl3, ?_⟩
 simp only [dI]
 refine mI.2 ⟨by rw [hl3]; simp, ?_⟩
 exact aS.2 hq
theorem ML {j : Nat} {fs : List gA} {t : TypeId} {i : TI} (hi : ti E t = M.pure i) {xs : List aA} {f : Nat → aA} (hf : bI h n)
  (hq : ∀ H r w, H n = some (.row (.l xs) t) → (∀ k, k ≠ n → H k = h k) → bI H (n + 1) → Fe E fn rnd Q ks ops (j + 1) bM (cE tm d (f n)) (⟨j, r, w, n, n + 1⟩ :: fs) H (n + 1)) :
  FeV E fn rnd Q ks ops j bM d tm fs ((newRow E t xs).bind fun id => M.pure (f id)) h n := by
 refine cK hf (Q1 := fun v' h' n' => v' = f n ∧ h' = Go.Am.upd h n (some (.row (.l xs) t)) ∧ n' = n + 1) ?_ fun v' h' n' r w hn hf' hh => ?_
 ·simp only [newRow, hi, aI, iT, aS, bind_assoc, and_self]
 ·obtain ⟨rfl, rfl, rfl⟩ := hh
  exact hq _ r w (bE _ _ _) (fun k hk => aP _ _ hk) hf'
theorem i6 {t : TypeId} {i : TI} (hi : ti E t = M.pure i) {xs : List aA} {f : Nat → aA} (hf : bI h n)
  (hq : ∀ H, H n = some (.row (.l xs) t) → (∀ k, k ≠ n → H k = h k) → bI H (n + 1) → Ops E fn rnd Q ks ops bM (cE tm d (f n)) H (n + 1)) :
  OpV E fn rnd Q ks ops bM d tm ((newRow E t xs).bind fun id => M.pure (f id)) h n := by
 simp only [newRow, hi, aI, tL, rA, bind_assoc]
 exact hq _ (bE _ _ _) (fun k hk => aP _ _ hk) hf.new
theorem mL {sz cnt id : Nat} {cap : Option Nat} {xs : List aA} {e : TypeId} (hh : h id = some (.row (.l xs) e)) (hl : xs.length = cnt * sz) : Rds h sz (.sl id 0 cnt cap sz) cnt xs :=
 .sl id 0 cnt cap (.l xs) e xs hh hl (by show 0 + xs.length ≤ xs.length; omega) (fun j hj => by rw [Nat.zero_add, bH.vW hj])
theorem zV {h : Hp} {id : Nat} {b : Option Blk} (e : h id = b) : Go.Am.upd h id b = h := funext fun j => by
 by_cases q : j = id
 ·subst q; rw [bE, e]
 ·rw [aP _ _ q]
theorem y8 {Q1 : aA → Hp → Nat → Prop} {t t2 e e' : TypeId} {i : TI} {x : aA} {id cnt k : Nat} {cap : Option Nat} {cells ys : List aA} (hh : h id = some (.row (.l cells) e')) (hx : Rds h i.size x k ys)
  (ht : und E t = M.pure (.slice e)) (ht2 : und E t2 = M.pure (.slice e)) (hi : ti E e = M.pure i) (hy : ys.all bK = true) (hz : 0 < i.size)
  (hfit : (cnt + k) * i.size ≤ cells.length) (hcap : ∀ m, cap = some m → cnt + k ≤ m)
  (hq : Q1 (.sl id 0 (cnt + k) cap i.size) (Go.Am.upd h id (some (.row (.l (bV cells (cnt * i.size) ys)) e'))) n) :
  Wp (fP E [t, t2] (.sl id 0 cnt cap i.size) x) h n Q1 := by
 have hyl := hx.length
 simp only [fP, ht2, aI, fD, append, ht, hi, hx.len, bind_assoc, gV]
 by_cases hk : k = 0
 ·subst hk
  have hy0 : ys = [] := List.eq_nil_of_length_eq_zero (by omega)
  subst hy0
  have hs : bV cells (cnt * i.size) [] = cells := by unfold bV; simp
  rw [hs, zV hh, Nat.add_zero] at hq
  simp only [Nat.beq_refl]
  exact aS.2 hq
 simp only [jU hk]
 refine iH hx.cells ?_
 have hwr : ∀ {β : Type} (f : Unit → M β) (Q2 : β → Hp → Nat → Prop), Wp (f ()) (Go.Am.upd h id (some (.row (.l (bV cells (cnt * i.size) ys)) e'))) n Q2 → Wp ((dS (.ptr id (0 + cnt * i.size)) ys).bind f) h n Q2 := fun f Q2 hw => by
  rw [Nat.add_mul] at hfit
  have hb : (cnt * i.size + ys.length).ble cells.length = true := dQ (by omega)
  simp only [dS, Nat.zero_add, bind_assoc, gC, hh, Option.some.injEq, exists_eq_left', cW, fQ, bH.size, hb, hy, mI, true_and]
  rw [kU _ _ _ (by omega)]
  exact ⟨by simp, hw⟩
 simp only [bL, Nat.beq_refl, gC, hh, Option.some.injEq, exists_eq_left', cW]
 cases cap with
 | none =>
  simp only [gV, Nat.zero_add, bH.size, dQ hfit, fQ]
  refine ⟨Nat.ble_eq_true_of_le hz, ?_⟩
  have := hwr (fun _ => M.pure (aA.sl id 0 (cnt + k) none i.size)) Q1 (aS.2 hq)
  rwa [Nat.zero_add] at this
 | some m =>
  simp only [gV, dQ (hcap m rfl)]
  exact hwr _ _ (aS.2 hq)
theorem Lst.inv {e : TypeId} {sz cnt : Nat} {v : aA} {xs : List aA} (ho : Lst h e sz v cnt xs) (hc : 0 < cnt) : ∃ id cap cells, v = .sl id 0 cnt cap sz ∧ h id = some (.row (.l cells) e) ∧ cnt * sz ≤ cells.length ∧ (∀ k, cap = some k → cnt ≤ k ∧ k * sz ≤ cells.length) ∧ cells.take (cnt * sz) = xs := by
 cases ho with
 | nil => omega
 | sl id cnt cap cells xs hh hl hc hx => exact ⟨id, cap, cells, rfl, hh, hl, hc, hx⟩
theorem MM {j : Nat} {fs : List gA} {t : TypeId} {i : TI} {v : aA} (hi : ti E t = M.pure i) (hv : eI v = false) (hf : bI h n)
  (hq : ∀ H r w, H n = some (.row (.l v.cells) t) → (∀ k, k ≠ n → H k = h k) → bI H (n + 1) → Fe E fn rnd Q ks ops (j + 1) bM (cE tm d (.ptr n 0)) (⟨j, r, w, n, n + 1⟩ :: fs) H (n + 1)) :
  FeV E fn rnd Q ks ops j bM d tm fs (alloc E t v) h n := by
 simp only [alloc, hv]
 exact ML hi hf hq
theorem lE {j : Nat} {fs : List gA} {t : TypeId} {i : TI} (hi : ti E t = M.pure i) {xs : List aA} {f : Nat → aA} (hf : bI h n)
  (hq : ∀ H, H n = some (.row (.l xs) t) → (∀ k, k ≠ n → H k = h k) → bI H (n + 1) → Fe E fn rnd Q ks ops (j + 1) bM (cE tm d (f n)) (⟨j, [], [], n, n + 1⟩ :: fs) H (n + 1)) :
  FeV E fn rnd Q ks ops j bM d tm fs ((newRow E t xs).bind fun id => M.pure (f id)) h n := by
 have key : ∀ H : Hp, Wp ((newRow E t xs).bind fun id => M.pure (f id)) H n fun v' h' n' => v' = f n ∧ h' = Go.Am.upd H n (some (.row (.l xs) t)) ∧ n' = n + 1 := fun H => by
  simp only [newRow, hi, aI, iT, aS, bind_assoc, and_self]
 refine rJ hf (key _) (key _) fun v' h' n' hn hf' hh => ?_
 obtain ⟨rfl, rfl, rfl⟩ := hh
 exact hq _ (bE _ _ _) (fun k hk => aP _ _ hk) hf'
theorem rH {x : List Nat} {f : gA} (h : ∀ id, id ∈ x → id < f.lo ∨ f.hi ≤ id) : kI x f = false := by
 unfold kI
 cases f.lo.beq f.hi with
 | true => rfl
 | false =>
  simp only
  rw [List.any_eq_false]
  intro y hy
  unfold within
  rcases h y hy with q | q
  ·rw [iE (by omega)]; simp
  ·rw [show y.blt f.hi = false from iE (by omega)]; simp
theorem JQ {i j a b c e : Nat} {r w : List Nat} (hr : ∀ id, id ∈ r → id < a ∨ b ≤ id) (hw : ∀ id, id ∈ w → id < a ∨ b ≤ id) : fK ⟨i, [], [], a, b⟩ ⟨j, r, w, c, e⟩ = false := by
 unfold fK
 simp only [kP, lB, Bool.false_or]
 rw [rH (f := ⟨i, [], [], a, b⟩) hr, rH (f := ⟨i, [], [], a, b⟩) hw]; rfl
theorem JP {i j a b c e : Nat} {r w : List Nat} (hr : ∀ id, id ∈ r → id < a ∨ b ≤ id) (hw : ∀ id, id ∈ w → id < a ∨ b ≤ id) : fK ⟨j, r, w, c, e⟩ ⟨i, [], [], a, b⟩ = false := by
 unfold fK
 simp only [jO, lB, Bool.false_or, Bool.or_false]
 rw [rH (f := ⟨i, [], [], a, b⟩) hr, rH (f := ⟨i, [], [], a, b⟩) hw]; rfl
end Go.Am
set_option linter.unusedSimpArgs false
set_option linter.unusedVariables false
set_option linter.defProp false
namespace Go.Am
open Go
def nG (cs : List aA) : M (List UInt8) := (ob (cs.all oC)).bind fun _ => M.pure (cs.map j4)
def jT : aA → M (List UInt8)
 | .aT => M.pure []
 | .emp => M.pure []
 | .str l => M.pure l
 | .sl id off len _ sz => bL sz 1 ((aZ (.ptr id off) len).bind nG)
 | .isl g sz off len => bL sz 1 ((aZ (.ip g (off + len) off) len).bind nG)
 | _ => bJ "bytes expected"
def dB : List aA → M aA
 | [x, y] => (jT x).bind fun a => (jT y).bind fun b => M.pure (.int .i64 (Lib.compareBytes a b))
 | _ => bJ "Compare"
section
variable {P : Program} {f : FuncId} {ρ : Ren} {m : Mem} {s s' : St} {w : World}
theorem xX {cs : List aA} {l : List UInt8} (h : (nG cs).run s = .ok l s') (ho : bU s') {ad : Addr} {xs : List Value} (hc : ∀ j y, xs[j]? = some y → w.cell? (ad.add j) = some y) (hx : RL ρ m cs xs.toArray) :
  (Extern.Bytes.loadBytes ad xs.length .empty).run P w = .ok ⟨⟨l⟩⟩ w ∧ fS s s' := by
 unfold nG at h
 obtain ⟨_, s1, h1, h2, ho1, _, _⟩ := M.aJ h ho
 obtain ⟨hall, e1⟩ := eK h1 ho1
 obtain ⟨rfl, rfl⟩ := aC h2
 obtain ⟨ns, b1, b2⟩ := BH hall hx
 have b1' : xs = ns.map (Value.int .u8) := by simpa using b1
 have := Lib.run_loadBytesX (P := P) w ns ad .empty (fun j x hj => hc j _ (by rw [b1', List.getElem?_map, hj]; rfl))
 refine ⟨?_, e1⟩
 rw [b1', List.length_map, this, b2]
 congr 1
 apply ByteArray.ext
 have he0 : ByteArray.empty.data = #[] := rfl
 rw [he0]
 simp [Lib.bytesOf]
theorem vS {a : aA} {l : List UInt8} (h : (jT a).run s = .ok l s') (ho : bU s') (hr : Rel P ρ m s.heap.get w) {x : Value} (hx : R ρ m a x) :
  (Extern.Bytes.bytesOf x).run P w = .ok ⟨⟨l⟩⟩ w ∧ fS s s' := by
 cases a with
 | aT => obtain ⟨rfl, rfl⟩ := aC h; cases hx; exact ⟨rfl, .refl _⟩
 | emp =>
  obtain ⟨rfl, rfl⟩ := aC h
  cases hx with
  | emp ad => cases ad <;> exact ⟨rfl, .refl _⟩
 | str l => obtain ⟨rfl, rfl⟩ := aC h; cases hx; exact ⟨rfl, .refl _⟩
 | sl id off len cap sz =>
  obtain ⟨rfl, h1⟩ := eH h
  obtain ⟨cs, s1, h2, h3, ho1, _, _⟩ := M.aJ h1 ho
  have go : ∀ (r : RB) (c : Nat), ρ id = some r → (Extern.Bytes.bytesOf (.slice (some ⟨r.b, off, none⟩) len c)).run P w = .ok ⟨⟨l⟩⟩ w ∧ fS s s' := by
   intro r c hρ
   obtain ⟨ad, xs, e, k1, k2, k3, k4, k5⟩ := hU h2 ho1 hr (.ptr id off r hρ)
   injection e with e
   injection e with e
   subst e
   obtain ⟨q1, q2⟩ := xX (P := P) h3 ho k1 k3
   rw [k2] at q1
   exact ⟨q1, k5.trans q2⟩
  cases hx with
  | slx _ _ _ c _ r hρ hl => exact go r c hρ
  | slw _ _ _ c _ r hρ hl hs hc => exact go r c hρ
  | sl0 _ _ _ _ ad hc hn =>
   have hcs : cs = [] ∧ fS s s1 := by
    unfold aZ at h2
    obtain ⟨b, s2, h4, h5, ho2, _, _⟩ := M.aJ h2 ho1
    obtain ⟨hg, e1⟩ := eC h4
    obtain ⟨c, t, rfl, h6⟩ := iU h5
    obtain ⟨_, s3, h7, h8, ho3, _, _⟩ := M.aJ h6 ho1
    obtain ⟨hb, e2⟩ := eK h7 ho3
    obtain ⟨rfl, rfl⟩ := aC h8
    have := bH.gW (n := 0) (Nat.le_of_ble_eq_true hb)
    exact ⟨List.length_eq_zero_iff.1 this, e1.trans e2⟩
   obtain ⟨rfl, e⟩ := hcs
   unfold nG at h3
   obtain ⟨_, s2, h4, h5, ho2, _, _⟩ := M.aJ h3 ho
   obtain ⟨_, e1⟩ := eK h4 ho2
   obtain ⟨rfl, rfl⟩ := aC h5
   exact ⟨rfl, e.trans e1⟩
 | isl g sz off len =>
  obtain ⟨rfl, h1⟩ := eH h
  obtain ⟨cs, s1, h2, h3, ho1, _, _⟩ := M.aJ h1 ho
  cases hx with
  | isl _ _ _ _ b o c g' hg hrr hl =>
   obtain ⟨ad, xs, e, k1, k2, k3, k4, k5⟩ := hU h2 ho1 hr (.ip g (off + len) off b o g' (fun j hj => hg j (by omega)) (fun j hj => hrr j (by omega)))
   injection e with e
   injection e with e
   subst e
   obtain ⟨q1, q2⟩ := xX (P := P) h3 ho k1 k3
   rw [k2] at q1
   exact ⟨q1, k5.trans q2⟩
  | sH _ _ _ c ad =>
   unfold aZ at h2
   obtain ⟨_, s3, h7, h8, ho3, _, _⟩ := M.aJ h2 ho1
   obtain ⟨hb, e2⟩ := eK h7 ho3
   obtain ⟨rfl, rfl⟩ := aC h8
   unfold nG at h3
   obtain ⟨_, s2, h4, h5, ho2, _, _⟩ := M.aJ h3 ho
   obtain ⟨_, e1⟩ := eK h4 ho2
   obtain ⟨rfl, rfl⟩ := aC h5
   exact ⟨rfl, e2.trans e1⟩
 | _ => exact (aD h).elim
theorem rl2 {x y : aA} {xs : Array Value} (h : RL ρ m [x, y] xs) : ∃ a b, xs = #[a, b] ∧ R ρ m x a ∧ R ρ m y b := by
 obtain ⟨l, r⟩ := h
 obtain ⟨xl⟩ := xs
 match xl with
 | [] => simp at l
 | [_] => simp at l
 | [a, b] => exact ⟨a, b, rfl, r 0 _ _ rfl rfl, r 1 _ _ rfl rfl⟩
 | _ :: _ :: _ :: _ => simp at l
theorem lM {fn : Func} (hf : P.funcs[f]? = some fn) (hname : (fn.name == "runtime.NumGoroutine") = false) (hb : fn.body.isNone = true) (hn : Extern.findNext fn = none) (he : Extern.find fn = some Extern.BytealgCompare.compare) : kM P f dB := by
 intro args s v s' h ho ρ m w xs hr hfr hx
 unfold dB at h
 split at h
 ·rename_i x y
  obtain ⟨a, s1, h1, h2, ho1, _, _⟩ := M.aJ h ho
  obtain ⟨b, s2, h3, h4, ho2, _, _⟩ := M.aJ h2 ho
  obtain ⟨rfl, rfl⟩ := aC h4
  obtain ⟨xa, xb, rfl, ra, rb⟩ := rl2 hx
  obtain ⟨q1, e1⟩ := vS (P := P) h1 ho1 hr ra
  obtain ⟨q2, e2⟩ := vS (P := P) h3 ho2 (hr.bS e1) rb
  refine .inr ⟨_, w, ?_, ρ, eW.bS hr (e1.trans e2), .int _ _⟩
  rw [run_callFunc_extern hf hname hb hn he]
  change Result.andThen (Sem.run P (do pure (goInt (Extern.BytealgCompare.cmp (← Extern.Bytes.bytesOf xa) (← Extern.Bytes.bytesOf xb)))) w) _ = _
  simp only [Sem.run_bind, q1, q2, Result.andThen_ok, Sem.run_pure, Lib.cmp_eq]
  rfl
 ·exact (aD h).elim
def gS (e : TypeId) : List aA → M aA
 | [.sl id1 off1 len1 _ _, .sl id2 _ len2 _ _] => (ob ((id1.beq id2).not && (Nat.blt 0 len1 && Nat.blt 0 len2))).bind fun _ =>
   (fX id1).bind (cW fun c t => (ob (t.beq e)).bind fun _ => (fX id2).bind (cW fun c2 _ => (ob (Nat.blt 0 c2.size)).bind fun _ => M.pure (.bool false)))
 | _ => bJ "overlaps"
theorem qS {fn : Func} {tS tR e : TypeId} {size : Nat} (hf : P.funcs[f]? = some fn) (hname : (fn.name == "runtime.NumGoroutine") = false) (hb : fn.body.isNone = true) (hn : Extern.findNext fn = none)
  (he : Extern.find fn = some (Extern.SlicesOverlaps.overlaps #[tS, tS] #[tR])) (ht : P.underlying tS = some (.slice e)) (hz : ∀ w, (Go.sizeOf e).run P w = .ok size w) (hne : P.underlying e ≠ some (.int .u8)) : kM P f (gS e) := by
 intro args s v s' h ho ρ m w xs hr hfr hx
 unfold gS at h
 split at h
 ·rename_i id1 off1 len1 cap1 sz1 id2 off2 len2 cap2 sz2
  obtain ⟨_, s1, h1, h2, ho1, _, _⟩ := M.aJ h ho
  obtain ⟨hb1, e1⟩ := eK h1 ho1
  simp only [Bool.and_eq_true, Bool.not_eq_true'] at hb1
  obtain ⟨hid, hl1, hl2⟩ := hb1
  have hid : id1 ≠ id2 := fun e => by subst e; simp at hid
  have hl1 : 0 < len1 := Nat.le_of_ble_eq_true hl1
  have hl2 : 0 < len2 := Nat.le_of_ble_eq_true hl2
  obtain ⟨b1, s2, h3, h4, ho2, _, _⟩ := M.aJ h2 ho
  obtain ⟨hg1, e2⟩ := eC h3
  obtain ⟨c1, t1, rfl, h5⟩ := iU h4
  obtain ⟨_, s3, h6, h7, ho3, _, _⟩ := M.aJ h5 ho
  obtain ⟨hte, e3⟩ := eK h6 ho3
  obtain rfl := Nat.eq_of_beq_eq_true hte
  obtain ⟨b2, s4, h8, h9, ho4, _, _⟩ := M.aJ h7 ho
  obtain ⟨hg2, e4⟩ := eC h8
  obtain ⟨c2, t2, rfl, h10⟩ := iU h9
  obtain ⟨_, s5, h11, h12, ho5, _, _⟩ := M.aJ h10 ho
  obtain ⟨hc2, e5⟩ := eK h11 ho5
  have hc2 : 0 < c2.size := Nat.le_of_ble_eq_true hc2
  obtain ⟨rfl, rfl⟩ := aC h12
  obtain ⟨xa, xb, rfl, ra, rb⟩ := rl2 hx
  have hg1 : s.heap.get id1 = some (.row c1 t1) := by rw [← e1.heap]; exact hg1
  have hg2 : s.heap.get id2 = some (.row c2 t2) := by rw [← e1.heap, ← e2.heap, ← e3.heap]; exact hg2
  have slr : ∀ {id off len cap sz x}, R ρ m (.sl id off len cap sz) x → 0 < len → ∃ r cc, ρ id = some r ∧ x = .slice (some ⟨r.b, off, none⟩) len cc := by
   intro id off len cap sz x hx hl
   cases hx with
   | slx _ _ _ c _ r hρ hl => exact ⟨r, _, hρ, rfl⟩
   | slw _ _ _ c _ r hρ hl hs hc => exact ⟨r, _, hρ, rfl⟩
   | sl0 _ _ _ _ ad hc hn => exact absurd hl (Nat.lt_irrefl _)
  obtain ⟨r1, cc1, hρ1, rfl⟩ := slr ra hl1
  obtain ⟨r2, cc2, hρ2, rfl⟩ := slr rb hl2
  obtain ⟨arr1, fr1, k1, k2, k3, k4, k5, k6, k7⟩ := hr.row hg1 hρ1
  obtain ⟨arr2, fr2, q1, q2, q3, q4, q5, q6, q7⟩ := hr.row hg2 hρ2
  have hbb : r1.b ≠ r2.b := fun e => hid (hr.inj id1 id2 _ _ r1 r2 hg1 hg2 hρ1 hρ2 e)
  have hfr1 : fr1.1 = fr1.2 := k6.elim id fun q => absurd q.2 hne
  have hfz : ∀ j, w.frozen? ⟨r1.b, j, none⟩ = false := fun j => by
   unfold World.frozen?
   obtain ⟨lo, hi⟩ := fr1
   simp only at hfr1
   subst hfr1
   rw [k1]
   simp only [Bool.and_eq_false_iff, decide_eq_false_iff_not]
   omega
  have hs1 : w.shape? r1.b = some (t1, arr1.size) := by unfold World.shape?; rw [k1]
  have hs2 : w.shape? r2.b = some (t2, arr2.size) := by unfold World.shape?; rw [q1]
  refine .inr ⟨_, w, ?_, ρ, eW.bS hr (((e1.trans e2).trans (e3.trans e4)).trans e5), .bool _⟩
  rw [run_callFunc_extern hf hname hb hn he, Lib.run_overlaps_apart w tS tR t1 ht size hz ⟨r1.b, off1, none⟩ ⟨r2.b, off2, none⟩ len1 cc1 len2 cc2 hbb t1 t2 arr1.size arr2.size hs1 hs2 (by omega) (hfz _) (hfz _)]
  rfl
 ·exact (aD h).elim
end
end Go.Am
