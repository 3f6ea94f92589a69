/- What the statement reaches, gone through; and the abstract machine that goes through it. -/
import Derived.Test.YtlgebaofkolkoaaGA
import Derived.RangeFuncLeaves
import Derived.TacticsIn
import Derived.Below
import Derived.IntWalk
import Derived.OpenShut
import Derived.Laws.Externs
import Derived.Lib.BytesEntry
import Derived.Lib.Overlaps
set_option linter.unusedSimpArgs false
set_option linter.unusedVariables false
namespace Go.Am
open Go
variable {E : Env}
section
variable {ρ : Ren} {m : Mem} {s s' : St} {w : World} {v : a9}
theorem cI {tm : List a9} {a : Act} (h : RL ρ m tm a.tmps) (x : Operand) : R ρ m (opd tm x) (a.eval x) := by
 cases x with
 | tmp t =>
  simp only [opd, Act.eval, hG]
  by_cases ht : t < tm.length
  ·have h1 : tm[t]? = some tm[t] := List.getElem?_eq_getElem ht
   have h2 : a.tmps[t]? = some (a.tmps[t]'(by rw [← h.len]; exact ht)) := Array.getElem?_eq_getElem (by rw [← h.len]; exact ht)
   have h3 : a.tmps.getD t Go.undef = a.tmps[t]'(by rw [← h.len]; exact ht) := by simp [Array.getD, ← h.len, ht]
   rw [h1, Option.getD_some, h3]
   exact h.at_ t _ _ h1 h2
  ·have h1 : tm[t]? = none := List.getElem?_eq_none (Nat.not_lt.1 ht)
   have h3 : a.tmps.getD t Go.undef = Go.undef := by simp [Array.getD, ← h.len, ht]
   rw [h1, Option.getD_none, h3]
   exact .tup _ _ rfl (fun i v x hv => by simp at hv)
 | const c => exact iJ c
 | global g => exact .aA _
 | func f => exact .fn _ _ _ _ _ _ (.func f) rfl rfl (fun i v u hv => by simp at hv) (fun i v u hv => by simp at hv)
theorem CM (tm : List a9) : ∀ l, (dY tm l).length = l.length
 | [] => rfl
 | x :: l => by simp [dY, CM tm l]
theorem CN (tm : List a9) : ∀ (l : List Operand) (i : Nat), (dY tm l)[i]? = (l[i]?).map (opd tm)
 | [], i => by simp [dY]
 | x :: l, 0 => by simp [dY]
 | x :: l, i + 1 => by simp [dY, CN tm l i]
theorem xD {tm : List a9} {a : Act} (h : RL ρ m tm a.tmps) (l : Array Operand) : RL ρ m (dY tm l.toList) (l.map a.eval) := by
 refine ⟨by simp [CM], fun i v x hv hx => ?_⟩
 rw [CN] at hv
 simp only [Array.getElem?_toList] at hv
 simp only [Array.getElem?_map] at hx
 cases hl : l[i]? with
 | none => rw [hl] at hv; cases hv
 | some o =>
  rw [hl] at hv hx
  simp only [Option.map_some, Option.some.injEq] at hv hx
  subst hv; subst hx
  exact cI h o
theorem GI {tm : List a9} {a : Act} (h : RL ρ m tm a.tmps) : ∀ l : List Operand, RV ρ m (dY tm l) (l.map a.eval)
 | [] => .nil
 | x :: l => .cons (cI h x) (GI h l)
theorem xC {tm : List a9} {a : Act} (h : RL ρ m tm a.tmps) : ∀ l : List (Nat × Operand), RP ρ m (eV tm l) (l.map fun (i, x) => (i, a.eval x))
 | [] => .nil
 | (i, x) :: l => .cons i _ _ _ _ (cI h x) (xC h l)
theorem B2 {tm : List a9} {a : Act} (h : RL ρ m tm a.tmps) : ∀ o : Option Operand, RO ρ m (opt tm o) (o.map a.eval)
 | none => .none
 | some x => .some _ _ (cI h x)
theorem qO {tm : List a9} {a : Act} (h : RL ρ m tm a.tmps) (d : Option Tmp) {v : a9} {x : Value} (hv : R ρ m v x) : RL ρ m (bX tm d v) (a.put d x).tmps := by
 cases d with
 | none => exact h
 | some d =>
  refine ⟨by simp [bX, Act.put, kO, h.len], fun i u y hu hy => ?_⟩
  simp only [bX, wG] at hu
  simp only [Act.put, Array.getElem?_setIfInBounds] at hy
  by_cases e : i = d
  ·subst e
   by_cases hl : i < tm.length
   ·have hl' : i < a.tmps.size := by rw [← h.len]; exact hl
    simp only [hl, and_self, if_true, Option.some.injEq] at hu
    simp only [hl', if_true, Option.some.injEq] at hy
    subst hu; subst hy
    exact hv
   ·have : tm[i]? = none := List.getElem?_eq_none (by omega)
    simp [hl, this] at hu
  ·have e' : ¬ d = i := fun h => e h.symm
   simp only [e, false_and, if_false] at hu
   simp only [e', if_false] at hy
   exact h.at_ i u y hu hy
theorem R.QF {v : a9} {x : Value} (h : R ρ m v x) (h1 : ∀ b, v ≠ .bool b) (h2 : ∀ b, v ≠ .gY b) (h3 : v ≠ .aA) : ∀ b, x ≠ .bool b := by
 cases h with
 | bool b => exact absurd rfl (h1 b)
 | gY b => exact absurd rfl (h2 b)
 | aA => exact absurd rfl h3
 | _ => intro b hb; cases hb
theorem E6 {ops : Array Oper} {tm : List a9} {a : Act} {o : Oper} {b : Bool} (h : (wanted ops.toList tm o.guard).run s = .ok b s') (ho : cF s') (ht : RL ρ m tm a.tmps) :
  gL s s' ∧ Region.wanted o (yielded ops a.tmps) = b := by
 unfold wanted at h
 unfold Region.wanted
 cases hg : o.guard with
 | none =>
  rw [hg] at h
  obtain ⟨rfl, rfl⟩ := aC h
  exact ⟨.refl _, rfl⟩
 | some p =>
  rw [hg] at h
  obtain ⟨j, want⟩ := p
  simp only [Array.getElem?_toList] at h
  simp only [yielded]
  cases hd : (ops[j]?).bind (·.dst) with
  | none =>
   rw [hd] at h
   obtain ⟨rfl, rfl⟩ := aC h
   exact ⟨.refl _, rfl⟩
  | some d =>
   rw [hd] at h
   simp only at h
   simp only [Option.bind_some]
   by_cases hl : d < tm.length
   ·have h1 : tm[d]? = some tm[d] := List.getElem?_eq_getElem hl
    have hl' : d < a.tmps.size := by rw [← ht.len]; exact hl
    have h2 : a.tmps[d]? = some a.tmps[d] := Array.getElem?_eq_getElem hl'
    have hr := ht.at_ d _ _ h1 h2
    rw [hG, h1, Option.getD_some] at h
    rw [h2]
    generalize tm[d] = v at *
    generalize a.tmps[d] = x at *
    unfold lG at h
    split at h
    ·rename_i b
     obtain ⟨t, s1, h3, h4, ho1, _, _⟩ := M.aH h ho
     obtain ⟨rfl, e⟩ := qG h3 ho1
     obtain ⟨rfl, rfl⟩ := aC h4
     obtain rfl := hr.bool_inv
     refine ⟨e, ?_⟩
     cases t <;> cases want <;> rfl
    ·rename_i b
     obtain ⟨rfl, rfl⟩ := aC h
     obtain rfl := hr.qD
     refine ⟨.refl _, ?_⟩
     cases b <;> cases want <;> rfl
    ·exact (aD h).elim
    ·rename_i h3 h4 h5
     obtain ⟨rfl, rfl⟩ := aC h
     refine ⟨.refl _, ?_⟩
     have := hr.QF (fun b => h3 b) (fun b => h4 b) h5
     cases x with
     | bool b => exact absurd rfl (this b)
     | _ => rfl
   ·have h1 : tm[d]? = none := List.getElem?_eq_none (Nat.not_lt.1 hl)
    have h2 : a.tmps[d]? = none := Array.getElem?_eq_none (by rw [← ht.len]; exact Nat.not_lt.1 hl)
    rw [hG, h1, Option.getD_none] at h
    rw [h2]
    have h : (M.pure false).run s = .ok b s' := h
    obtain ⟨rfl, rfl⟩ := aC h
    exact ⟨.refl _, rfl⟩
def XI (P : Program) (ρ : Ren) (m : Mem) (s : St) (w : World) (s' : St) (v : a9) (res : Result Next) : Prop :=
 ∃ x w' ρ', (res = .ok (.value x) w' ∨ (res = .ok .skip w' ∧ x = Go.undef)) ∧ fF P ρ m s w ρ' m s' w' ∧ R ρ' m v x
theorem Out.next {P : Program} {r : Sem Value} (h : Out P ρ m s w s' v (r.run P w)) : XI P ρ m s w s' v ((do pure (.value (← r)) : Sem Next).run P w) := by
 obtain ⟨x, w', ρ', h1, h2, h3⟩ := h
 exact ⟨x, w', ρ', .inl (by simp only [Sem.run_bind, h1, Result.andThen_ok, Sem.run_pure]), h2, h3⟩
theorem lQ : R ρ m undef Go.undef := .tup _ _ rfl (fun i v x hv => by simp at hv)
theorem B6 {a : a9} (h : (nilCheck a).run s = .ok v s') {x : Value} (hx : R ρ m a x) : s' = s ∧ R ρ m v x ∧ x ≠ .pointer none ∧ x ≠ .nilIface ∧ x ≠ .nilFunc ∧ (∀ n a b, x ≠ .func (.method n) a b) := by
 unfold nilCheck at h
 split at h
 ·obtain ⟨rfl, rfl⟩ := aC h
  refine ⟨rfl, hx, ?_⟩
  cases hx
  exact ⟨by simp, by simp, by simp, by simp⟩
 ·obtain ⟨rfl, rfl⟩ := aC h
  refine ⟨rfl, hx, ?_⟩
  cases hx
  exact ⟨by simp, by simp, by simp, by simp⟩
 ·split at h
  ·obtain ⟨rfl, rfl⟩ := aC h
   refine ⟨rfl, hx, ?_⟩
   cases hx with
   | fn _ _ _ _ _ _ hf =>
    cases hf
    exact ⟨by simp, by simp, by simp, by simp⟩
  ·obtain ⟨rfl, rfl⟩ := aC h
   refine ⟨rfl, hx, ?_⟩
   cases hx with
   | fn _ _ _ _ _ _ hf =>
    cases hf
    exact ⟨by simp, by simp, by simp, by simp⟩
  ·exact (aD h).elim
 ·exact (aD h).elim
theorem B4 {k : a9 → M a9} {l : List a9} (h : (eX k l).run s = .ok v s') : ∃ x, l = [x] ∧ (k x).run s = .ok v s' := by
 unfold eX at h
 split at h
 ·exact ⟨_, rfl, h⟩
 ·exact (aD h).elim
theorem AR {k : a9 → a9 → M a9} {l : List a9} (h : (eW k l).run s = .ok v s') : ∃ x y, l = [x, y] ∧ (k x y).run s = .ok v s' := by
 unfold eW at h
 split at h
 ·exact ⟨_, _, rfl, h⟩
 ·exact (aD h).elim
theorem CC {k : a9 → List a9 → M a9} {l : List a9} (h : (dH k l).run s = .ok v s') : ∃ x y, l = x :: y ∧ (k x y).run s = .ok v s' := by
 unfold dH at h
 split at h
 ·exact ⟨_, _, rfl, h⟩
 ·exact (aD h).elim
theorem RV.array {l : List a9} {c : Array Value} (h : RL ρ m l c) : RV ρ m l c.toList := by
 obtain ⟨c⟩ := c
 obtain ⟨hl, ha⟩ := h
 simp only [List.size_toArray] at hl
 induction l generalizing c with
 | nil =>
  cases c with
  | nil => exact .nil
  | cons => simp at hl
 | cons v l ih =>
  cases c with
  | nil => simp at hl
  | cons x c => exact .cons (ha 0 v x (by simp) (by simp)) (ih c (fun i v x hv hx => ha (i + 1) v x (by simpa using hv) (by simpa using hx)) (by simpa using hl))
theorem P8 {ts : List TypeId} {a : a9} (h : (dD E ts a).run s = .ok v s') (hr : Rel E.P ρ m s.heap.get w) {x : Value} (hx : R ρ m a x) (ty : TypeId) :
  Out E.P ρ m s w s' v ((Builtin.len_ ts.toArray ty #[x]).run E.P w) := by
 unfold dD at h
 split at h
 ·rename_i t tl
  obtain ⟨d, s1, h1, h2⟩ := M.aF h
  obtain ⟨⟨i, hi, rfl⟩, rfl⟩ := fN h1
  have hu := hi.eD (w := w)
  have h0 : ((t :: tl).toArray : Array TypeId)[0]? = some t := rfl
  have hx0 : (#[x] : Array Value)[0]? = some x := rfl
  cases hd : i.desc with
  | array n e =>
   rw [hd] at h2 hu
   obtain ⟨rfl, rfl⟩ := aC h2
   simp only [Builtin.len_, h0, hx0, Sem.run_bind, hu, Result.andThen_ok, Sem.run_pure]
   exact .same hr (.refl _) (.int _ _)
  | pointer e =>
   rw [hd] at h2 hu
   obtain ⟨d2, s2, h3, h4⟩ := M.aF h2
   obtain ⟨⟨j, hj, rfl⟩, rfl⟩ := fN h3
   have hv := hj.eD (w := w)
   cases hd2 : j.desc with
   | array n e =>
    rw [hd2] at h4 hv
    obtain ⟨rfl, rfl⟩ := aC h4
    simp only [Builtin.len_, h0, hx0, Sem.run_bind, hu, hv, Result.andThen_ok, Sem.run_pure]
    exact .same hr (.refl _) (.int _ _)
   | _ => rw [hd2] at h4; exact (aD h4).elim
  | string =>
   rw [hd] at h2 hu
   obtain ⟨l, rfl, h3⟩ := lZ h2
   obtain ⟨rfl, rfl⟩ := aC h3
   obtain rfl := hx.iI
   simp only [Builtin.len_, h0, hx0, Sem.run_bind, hu, Result.andThen_ok, Sem.run_pure]
   exact .same hr (.refl _) (.int _ _)
  | slice e =>
   rw [hd] at h2 hu
   simp only at h2
   split at h2
   ·exact (aD h2).elim
   ·rename_i hns
    obtain ⟨n, s2, h3, h4⟩ := M.aF h2
    obtain ⟨rfl, rfl⟩ := aC h4
    obtain ⟨rfl, hl⟩ := nO (P := E.P) (w := w) h3 hx
    have go : ∀ (eQ : Option Addr) (l c : Nat), x = .slice eQ l c → Out E.P ρ m s' w s' (.int .i64 n) ((Builtin.len_ (t :: tl).toArray ty #[x]).run E.P w) := by
     rintro eQ l c rfl
     have : l = n := by
      have := hl
      simp only [Builtin.lenOf] at this
      injection this
     subst this
     simp only [Builtin.len_, h0, hx0, Sem.run_bind, hu, Result.andThen_ok, Sem.run_pure]
     exact .same hr (.refl _) (.int _ _)
    unfold lenOf at h3
    split at h3
    ·cases hx; exact go _ _ _ rfl
    ·cases hx; exact go _ _ _ rfl
    ·cases hx <;> exact go _ _ _ rfl
    ·cases hx <;> exact go _ _ _ rfl
    ·exact absurd rfl (hns _)
    ·exact (aD h3).elim
  | map kt et =>
   rw [hd] at h2 hu
   simp only at h2
   split at h2
   ·obtain ⟨rfl, rfl⟩ := aC h2
    cases hx
    simp only [Builtin.len_, h0, hx0, Sem.run_bind, hu, Result.andThen_ok, Sem.run_pure]
    exact .same hr (.refl _) (.int _ _)
   ·rename_i id
    obtain ⟨b, s2, h3, h4⟩ := M.aF h2
    obtain ⟨hg, e1⟩ := eC h3
    split at h4
    ·rename_i es ck
     obtain ⟨r, arr, rfl, hρ, hgo, hw, hm⟩ := pO hr hg hx
     obtain ⟨rfl, rfl⟩ := aC h4
     have hl : (es.length : Int) = (arr.size : Int) := by have := hm.len; simp at this; omega
     simp only [Builtin.len_, h0, hx0, Sem.run_bind, hu, hgo, Result.andThen_ok, Sem.run_pure]
     rw [hl]
     exact .same hr e1 (.int _ _)
    ·exact (aD h4).elim
   ·exact (aD h2).elim
  | _ => rw [hd] at h2; exact (aD h2).elim
 ·exact (aD h).elim
theorem P9 {ts : Array TypeId} {ty : TypeId} {a : a9} (h : (S4 E ts.toList a).run s = .ok v s') (hr : Rel E.P ρ m s.heap.get w) {x : Value} (hx : R ρ m a x) :
  Out E.P ρ m s w s' v ((Builtin.cap_ ts ty #[x]).run E.P w) := by
 unfold S4 at h
 split at h
 ·rename_i t tl hts
  obtain ⟨tsl⟩ := ts
  simp only at hts
  subst hts
  obtain ⟨d, s1, h1, h2⟩ := M.aF h
  obtain ⟨⟨i, hi, rfl⟩, rfl⟩ := fN h1
  have hu := hi.eD (w := w)
  cases hd : i.desc with
  | slice e =>
   rw [hd] at h2 hu
   obtain ⟨n, s2, h3, h4⟩ := M.aF h2
   obtain ⟨rfl, rfl⟩ := aC h4
   have go : ∀ (eQ : Option Addr) (l : Nat), x = .slice eQ l n → s' = s1 → Out E.P ρ m s1 w s' (.int .i64 n) ((Builtin.cap_ (t :: tl).toArray ty #[x]).run E.P w) := by
    rintro eQ l rfl rfl
    simp only [Builtin.cap_, List.getElem?_toArray, List.getElem?_cons_zero, Sem.run_bind, hu, Result.andThen_ok, Sem.run_pure]
    exact .same hr (.refl _) (.int _ _)
   unfold OC at h3
   split at h3
   ·obtain ⟨rfl, rfl⟩ := aC h3; cases hx; exact go _ _ rfl rfl
   ·obtain ⟨rfl, rfl⟩ := aC h3; cases hx; exact go _ _ rfl rfl
   ·split at h3
    ·obtain ⟨rfl, rfl⟩ := aC h3
     cases hx with
     | slx _ _ _ c _ r hρ hl => exact go _ _ rfl rfl
     | sl0 _ _ _ _ ad hc hn' =>
      have := hc _ rfl
      subst this
      exact go _ _ rfl rfl
    ·exact (aD h3).elim
   ·exact (aD h3).elim
  | _ => rw [hd] at h2; exact (aD h2).elim
 ·exact (aD h).elim
theorem FX {ts : Array TypeId} {ty : TypeId} {a : a9} (h : (qF E ts.toList a).run s = .ok v s') (ho : cF s') (hr : Rel E.P ρ m s.heap.get w) {x : Value} (hx : R ρ m a x) :
  Out E.P ρ m s w s' v ((Builtin.clear_ ts ty #[x]).run E.P w) := by
 unfold qF at h
 split at h
 ·rename_i t tl hts
  obtain ⟨tsl⟩ := ts
  simp only at hts
  subst hts
  obtain ⟨d, s1, h1, h2⟩ := M.aF h
  obtain ⟨⟨i, hi, rfl⟩, rfl⟩ := fN h1
  have hu := hi.eD (w := w)
  cases hd : i.desc with
  | slice e =>
   rw [hd] at h2 hu
   have none_ : ∀ (eQ : Option Addr) (c : Nat), x = .slice eQ 0 c → (Builtin.clear_ (t :: tl).toArray ty #[x]).run E.P w = .ok (.tuple #[]) w := by
    rintro eQ c rfl
    cases eQ <;> simp only [Builtin.clear_, List.getElem?_toArray, List.getElem?_cons_zero, Sem.run_bind, hu, Result.andThen_ok, Sem.run_pure]
   have tup0 : ∀ {ρ : Ren}, R ρ m (.tup []) (.tuple #[]) := fun {ρ} => .tup _ _ rfl (fun i v x hv => by simp at hv)
   simp only at h2
   split at h2
   ·obtain ⟨rfl, rfl⟩ := aC h2; cases hx; rw [none_ _ _ rfl]; exact .same hr (.refl _) tup0
   ·obtain ⟨rfl, rfl⟩ := aC h2; cases hx; rw [none_ _ _ rfl]; exact .same hr (.refl _) tup0
   ·rename_i id off len cap sz
    obtain ⟨nothing, s2, h3, h4, ho2, _, _⟩ := M.aH h2 ho
    obtain ⟨hq, e2⟩ := qG h3 ho2
    cases nothing with
    | true =>
     have h0 : len = 0 := Nat.eq_of_beq_eq_true hq.symm
     subst h0
     obtain ⟨rfl, rfl⟩ := aC h4
     cases hx <;> (rw [none_ _ _ rfl]; exact .same hr e2 tup0)
    | false =>
     have hne : ¬ len = 0 := by intro hh; rw [hh] at hq; cases hq
     obtain ⟨j, s3, h5, h6⟩ := M.aF h4
     obtain ⟨hj, rfl⟩ := lY h5
     obtain ⟨hsz, h7⟩ := eO h6
     obtain ⟨_, s4, h8, h9⟩ := M.aF h7
     obtain ⟨rfl, rfl⟩ := aC h9
     obtain ⟨z, hz, hzi⟩ := hj.m5 (w := w)
     have hzc := hj.uB (ρ := ρ) (m := m) hzi
     have hreps := sW hzc len
     have go : ∀ (r : RB) (c : Nat), ρ id = some r → x = .slice (some ⟨r.b, off, none⟩) len c → Out E.P ρ m s1 w s' (.tup []) ((Builtin.clear_ (t :: tl).toArray ty #[x]).run E.P w) := by
      intro r c hρ hxe
      subst hxe
      obtain ⟨ad, w', q1, q2, q3⟩ := iW h8 ho (hr.bY e2) (.ptr id off r hρ) (xs := (Builtin.zeroCells z.cells len).toList) (by simpa [Builtin.zeroCells] using hreps.len) (fun j p q hp hq => hreps.at_ j p q hp (by rw [Array.getElem?_toList] at hq; exact hq))
      injection q1 with q1
      injection q1 with q1
      subst q1
      refine ⟨_, w', ρ, ?_, q3.after e2, tup0⟩
      cases len with
      | zero => exact absurd rfl hne
      | succ len => simp only [Builtin.clear_, List.getElem?_toArray, List.getElem?_cons_zero, Sem.run_bind, hu, Result.andThen_ok, hz, q2, Sem.run_pure]
     cases hx with
     | slx _ _ _ c _ r hρ hl => exact go r c hρ rfl
     | slw _ _ _ c _ r hρ hl hs hc => exact go r c hρ rfl
     | sl0 _ _ _ _ ad hc hn' => exact absurd rfl hne
   ·exact (aD h2).elim
  | map kt et =>
   have tup0 : R ρ m (.tup []) (.tuple #[]) := .tup _ _ rfl (fun i v x hv => by simp at hv)
   rw [hd] at h2 hu
   simp only at h2
   split at h2
   ·obtain ⟨rfl, rfl⟩ := aC h2
    cases hx
    simp only [Builtin.clear_, List.getElem?_toArray, List.getElem?_cons_zero, Sem.run_bind, hu, Result.andThen_ok, Sem.run_pure]
    exact .same hr (.refl _) tup0
   ·rename_i id
    obtain ⟨b, s2, h3, h4⟩ := M.aF h2
    obtain ⟨hg, e1⟩ := eC h3
    unfold lK at h4
    split at h4
    ·rename_i es ck
     obtain ⟨r, arr, rfl, hρ, hgo, hw, hm⟩ := pO hr hg hx
     obtain ⟨_, s3, h5, h6⟩ := M.aF h4
     obtain ⟨rfl, rfl⟩ := aC h6
     obtain ⟨k1, k2⟩ := kX (arr' := #[]) hr hg hρ e1 h5 hw .nil
     refine ⟨.tuple #[], _, ρ, ?_, k2, tup0⟩
     simp only [Builtin.clear_, List.getElem?_toArray, List.getElem?_cons_zero, Sem.run_bind, hu, hgo, Result.andThen_ok, k1, Sem.run_pure]
    ·exact (aD h4).elim
   ·exact (aD h2).elim
  | _ => rw [hd] at h2; exact (aD h2).elim
 ·exact (aD h).elim
theorem DX {b : Builtin} {ts : Array TypeId} {ty : TypeId} {cs : Array Bool} {args : List a9} {xs : Array Value} (h : (builtin E b ts.toList args).run s = .ok v s') (ho : cF s') (hr : Rel E.P ρ m s.heap.get w) (hf : fK ρ s s')
  (hx : RV ρ m args xs.toList) : XI E.P ρ m s w s' v ((Go.builtin b ts ty cs xs).run E.P w) := by
 unfold builtin at h
 obtain ⟨xl⟩ := xs
 split at h
 ·obtain ⟨a, rfl, h2⟩ := B4 h
  cases hx with
  | cons ha ht =>
   cases ht
   have := P8 h2 hr ha ty
   rw [Array.toArray_toList] at this
   exact this.next
 ·obtain ⟨a, b, rfl, h2⟩ := AR h
  cases hx with
  | cons ha ht =>
   cases ht with
   | cons hb ht =>
    cases ht
    unfold gH at h2
    split at h2
    ·rename_i t t2 bH hts
     obtain ⟨d2, s1, h3, h4⟩ := M.aF h2
     obtain ⟨⟨i2, hi2, rfl⟩, rfl⟩ := fN h3
     split at h4
     ·rename_i hd2
      cases bH with
      | nil => exact (E2 (ty := ty) (by rw [hts]) hi2 hd2 (by rw [hts] at h4; exact h4) ho hr hf ha hb).next
      | cons t3 bH => rw [hts] at h4; exact (aD h4).elim
     ·rename_i hd2
      exact (FY (ty := ty) hts hi2 hd2 h4 ho hr hf ha hb).next
    ·exact (aD h2).elim
 ·obtain ⟨a, b, rfl, h2⟩ := AR h
  cases hx with
  | cons ha ht =>
   cases ht with
   | cons hb ht =>
    cases ht
    unfold dO at h2
    split at h2
    ·rename_i t bH hts
     exact (NY (ty := ty) (by rw [← Array.getElem?_toList, hts]; rfl) h2 ho hr ha hb).next
    ·exact (aD h2).elim
 ·obtain ⟨a, l, rfl, h2⟩ := CC h
  cases hx with
  | cons ha ht =>
   exact Out.next (r := Builtin.min_ ts ty _) (xQ (f := min2) (g := Builtin.min2) (fun h hr x y hx hy => MG h hr hx hy) h2 hr ha ht)
 ·obtain ⟨a, l, rfl, h2⟩ := CC h
  cases hx with
  | cons ha ht =>
   exact Out.next (r := Builtin.max_ ts ty _) (xQ (f := max2) (g := Builtin.max2) (fun h hr x y hx hy => MI h hr hx hy) h2 hr ha ht)
 ·obtain ⟨a, rfl, h2⟩ := B4 h
  cases hx with
  | cons ha ht =>
   cases ht
   have := P9 (ty := ty) h2 hr ha
   rw [Array.toArray_toList] at this
   exact this.next
 ·obtain ⟨a, rfl, h2⟩ := B4 h
  cases hx with
  | cons ha ht =>
   cases ht
   have := FX (ty := ty) h2 ho hr ha
   rw [Array.toArray_toList] at this
   exact this.next
 ·obtain ⟨a, b, rfl, h2⟩ := AR h
  cases hx with
  | cons ha ht =>
   cases ht with
   | cons hb ht =>
    cases ht
    have := DZ (ty := ty) h2 ho hr ha hb
    rw [Array.toArray_toList] at this
    exact this.next
 ·exact (aD h).elim
theorem F8 {rec : Rec} {o : Oper} {tm : List a9} {a : Act} (h : (execOp E rec tm o.op).run s = .ok v s') (ho : cF s') (hr : Rel E.P ρ m s.heap.get w) (hf : fK ρ s s') (ht : RL ρ m tm a.tmps)
  (hc : ∀ c f, o.op = .call c → c.callee ≠ .value f) : XI E.P ρ m s w s' v ((Go.execOp a.eval o).run E.P w) := by
 obtain ⟨dst, op, type, pos, after, guard⟩ := o
 simp only at h hc
 unfold execOp at h
 split at h
 case h_1 x =>
  obtain ⟨rfl, rfl⟩ := aC h
  exact ⟨_, w, ρ, .inl rfl, .bY hr (.refl _), cI ht _⟩
 case h_2 x =>
  obtain ⟨rfl, rfl⟩ := aC h
  exact ⟨_, w, ρ, .inl rfl, .bY hr (.refl _), cI ht _⟩
 case h_3 c x y =>
  obtain ⟨t, s1, h1, h2, ho1, _, _⟩ := M.aH h ho
  obtain ⟨hb, e⟩ := AN h1 ho1
  have hcv : a.eval c = .bool t := by
   have := cI ht c
   rcases hb with hb | hb
   ·rw [hb] at this; exact this.bool_inv
   ·rw [hb] at this; exact this.qD
  cases t with
  | true =>
   obtain ⟨rfl, rfl⟩ := aC h2
   refine ⟨a.eval x, w, ρ, .inl ?_, .bY hr e, cI ht _⟩
   simp only [Go.execOp, Sem.run_bind, hcv, asBool, Sem.run_pure, Result.andThen_ok, if_true]
  | false =>
   obtain ⟨rfl, rfl⟩ := aC h2
   refine ⟨a.eval y, w, ρ, .inl ?_, .bY hr e, cI ht _⟩
   simp only [Go.execOp, Sem.run_bind, hcv, asBool, Sem.run_pure, Result.andThen_ok, Bool.false_eq_true, if_false]
 case h_4 t =>
  obtain ⟨z, s1, h1, h2⟩ := M.aF h
  obtain ⟨⟨i, hi, rfl⟩, rfl⟩ := uA h1
  obtain ⟨zv, hz, hzi⟩ := hi.m5 (w := w)
  have hzr : R ρ m i.zero zv := hzi ▸ iJ zv
  obtain ⟨ad, w', ρ', k1, k2, k3⟩ := xG h2 ho hr hf hzr
  refine Out.next (r := Instr.alloc t true (.tuple #[])) ⟨_, w', ρ', ?_, k2, k3⟩
  simp only [Instr.alloc, Sem.run_bind, hz, Result.andThen_ok, k1, Sem.run_pure]
 case h_5 t x =>
  obtain ⟨ad, w', ρ', k1, k2, k3⟩ := xG h ho hr hf (cI ht x)
  refine Out.next (r := Instr.box t (a.eval x)) ⟨_, w', ρ', ?_, k2, k3⟩
  simp only [Instr.box, Sem.run_bind, Result.andThen_ok, k1, Sem.run_pure]
 case h_6 t ps =>
  have := JH h ho hr (xC ht ps.toList)
  have e : (ps.toList.map fun (i, x) => (i, a.eval x)).toArray = ps.map fun (i, x) => (i, a.eval x) := by
   apply Array.ext'; simp
  rw [e] at this
  exact this.next
 case h_7 t n ps =>
  have := yP h ho hr hf (xC ht ps.toList)
  have e : (ps.toList.map fun (i, x) => (i, a.eval x)).toArray = ps.map fun (i, x) => (i, a.eval x) := by
   apply Array.ext'; simp
  rw [e] at this
  exact this.next
 case h_8 t x => exact (MS h ho hr (cI ht x)).next
 case h_9 t x y =>
  obtain ⟨u, s1, h1, h2⟩ := M.aF h
  obtain ⟨rfl, rfl⟩ := aC h2
  obtain ⟨w', k1, k2⟩ := HZ h1 ho hr (cI ht x) (cI ht y)
  refine ⟨Go.undef, w', ρ, .inr ⟨?_, rfl⟩, k2, lQ⟩
  simp only [Go.execOp, Sem.run_bind, k1, Result.andThen_ok, Sem.run_pure]
 case h_10 x =>
  have hx := cI ht x
  obtain ⟨rfl, k1, k2, k3, k4, k5⟩ := B6 h hx
  refine ⟨a.eval x, w, ρ, .inl ?_, .bY hr (.refl _), k1⟩
  simp only [Go.execOp]
  generalize a.eval x = y at *
  cases y with
  | pointer p => cases p with
   | none => exact absurd rfl k2
   | some p => rfl
  | nilIface => exact absurd rfl k3
  | nilFunc => exact absurd rfl k4
  | func f p q =>
   cases f with
   | method nm => exact absurd rfl (k5 nm p q)
   | _ => rfl
  | _ => rfl
 case h_11 bop t x y _ => exact (JK h ho hr (cI ht x) (cI ht y) x y).next
 case h_12 uop _ x => exact (JQ h ho hr (cI ht x)).next
 case h_13 sr ds x => exact (DP h ho hr hf (cI ht x)).next
 case h_14 f x y =>
  split at h
  ·rename_i g
   obtain ⟨rfl, rfl⟩ := aC h
   have hx := xD ht x
   have hy := xD ht y
   exact Out.next (r := Instr.makeFunc (.func g) (x.map a.eval) (y.map a.eval)) ⟨_, w, ρ, rfl, .bY hr (.refl _), .fn _ _ _ _ _ _ (.func g) hx.len hy.len hx.at_ hy.at_⟩
  ·exact (aD h).elim
 case h_15 t l c => exact (zF h ho hr hf (cI ht l) (cI ht c)).next
 case h_16 t x lo hi mx => exact (I0 h ho hr (cI ht x) (B2 ht lo) (B2 ht hi) (B2 ht mx)).next
 case h_17 t x f => exact (zJ h hr (cI ht x)).next
 case h_18 t x f => exact (J1 h hr (cI ht x)).next
 case h_19 t x i => exact (zH h ho hr (cI ht x) (cI ht i)).next
 case h_20 t x i => exact (IS h ho hr (cI ht x) (cI ht i)).next
 case h_21 t x => exact (I8 h ho hr hf (cI ht x)).next
 case h_22 x st =>
  split at h
  ·exact (MB h ho hr (cI ht x)).next
  ·exact (aD h).elim
 case h_23 x i => exact (DH h hr (cI ht x)).next
 case h_24 c =>
  unfold cJ at h
  obtain ⟨callee, cargs, ctys⟩ := c
  simp only at h
  split at h
  ·rename_i f
   exact absurd rfl (hc _ f rfl)
  ·rename_i b
   have := DX (ty := type) (cs := cargs.map fun | .const _ => true | _ => false) h ho hr hf (xs := cargs.map a.eval) (by simpa using GI ht cargs.toList)
   simp only [Go.execOp, resolve, Sem.run_bind, Sem.run_pure, Result.andThen_ok, invoke]
   exact this
  ·exact (aD h).elim
 case h_25 t r =>
  refine (CQ (t := t) h hr hf (r' := r.map a.eval) fun e => ?_).next
  cases r with
  | none => rfl
  | some r => cases e
 case h_26 x => exact (J8 h ho hr (cI ht x)).next
 case h_27 t x k ok => exact (ES h ho hr (cI ht x) (cI ht k)).next
 case h_28 t x k y =>
  obtain ⟨rfl, w', ρ', k1, k2⟩ := rM h ho hr (cI ht x) (cI ht k) (cI ht y)
  exact ⟨Go.undef, w', ρ', .inr ⟨by simp only [Go.execOp, Sem.run_bind, k1, Result.andThen_ok, Sem.run_pure], rfl⟩, k2, lQ⟩
 case h_29 t x k y =>
  obtain ⟨rfl, w', ρ', k1, k2⟩ := rM h ho hr (cI ht x) (cI ht k) (cI ht y)
  exact ⟨Go.undef, w', ρ', .inr ⟨by simp only [Go.execOp, Sem.run_bind, k1, Result.andThen_ok, Sem.run_pure], rfl⟩, k2, lQ⟩
 case h_30 t x k => exact (B7 h ho hr (cI ht x) (cI ht k)).next
 case h_31 t x st y =>
  obtain ⟨rfl, w', ρ', k1, k2⟩ := xZ (t := t) h ho hr (cI ht x) (cI ht st) (cI ht y)
  exact ⟨Go.undef, w', ρ', .inr ⟨by simp only [Go.execOp, Sem.run_bind, k1, Result.andThen_ok, Sem.run_pure], rfl⟩, k2, lQ⟩
 case h_32 => exact (aD h).elim
end
end Go.Am
set_option linter.unusedSimpArgs false
set_option linter.unusedVariables false
namespace Go.Am
open Go
theorem Fw.depth (o : Option Nat) {n : Nat} : (Fw o).depth.isSome = true → 1 ≤ n := fun h => by cases h
theorem Fw.SU {o : Option Nat} {n : Nat} {P : Program} {f : FuncId} {args : Array Value} {w : World} {K : Ending → World → Prop} (h : Calls P f args w K) : CallsIn (Fw o) n P f args w K :=
 (callsIn_wide (n := n)).2 h
section
variable {P : Program} {b : Frame} {a : Act} {k : List Item} {cs : List Frame} {w : World}
theorem jS {c : Code} : Go.step P (lone (b.atR a (.code (.scope c) :: k)) cs w) = .next (lone (b.atR a (.code c :: .inScope c :: k)) cs w) :=
 step_lone_go (by simp [stepG, stepG.exec, Frame.atR])
theorem z8 {c : Code} : Go.step P (lone (b.atR a (.inScope c :: k)) cs w) = .next (lone (b.atR a k) cs w) :=
 step_lone_go (by simp [stepG, stepG.exec, Frame.atR])
end
def UU (Q : Exit → Act → World → Prop) : Exit → Act → World → Prop
 | .goto _, _, _ => False
 | e, a, w => Q e a w
section
variable {F : Fence} {n : Nat} {P : Program} {Q : Exit → Act → World → Prop} {a : Act} {w : World}
theorem rD {c : Code} (h : c.wpIn F n P (UU Q) a w) : (Code.scope c).wpIn F n P Q a w := by
 intro b k cs hro hb hr
 have h0 : (lone (b.atR a (.code (.scope c) :: k)) cs w).fenced P F := fenced_calm hb hr rfl
 obtain ⟨e, a₁, w₁, hq, harr⟩ := h b (.inScope c :: k) cs hro hb hr
 cases e with
 | normal => exact ⟨.normal, a₁, w₁, hq, .head h0 jS (StepsIn.trans harr (.one (fenced_calm hb hr rfl) z8))⟩
 | exit id =>
  have hx : exitTo id (.inScope c :: k) = exitTo id k := by simp [exitTo]
  exact ⟨.exit id, a₁, w₁, hq, fun k' hk => .head h0 jS (harr.1 k' (by rw [hx]; exact hk)),
   fun hr' hk => let ⟨k₁, h1, h2⟩ := harr.2 hr' (by rw [hx]; exact hk); ⟨k₁, h1, .head h0 jS h2⟩⟩
 | goto l => exact hq.elim
 | ret => exact ⟨_, a₁, w₁, hq, .of_steps (.one h0 jS) harr⟩
 | panic ch => exact ⟨_, a₁, w₁, hq, .of_steps (.one h0 jS) harr⟩
 | outgrown => exact ⟨_, a₁, w₁, hq, .of_steps (.one h0 jS) harr⟩
theorem SF {p : Nat → Prop} : ∀ j, p j → ∃ i, p i ∧ ∀ k, p k → i ≤ k := by
 intro j
 induction j using Nat.strongRecOn with
 | _ j ih =>
  intro h
  by_cases hh : ∃ i, i < j ∧ p i
  ·obtain ⟨i, hi, hp⟩ := hh
   exact ih i hi hp
  ·refine ⟨j, h, fun k hk => ?_⟩
   rcases Nat.lt_or_ge k j with hlt | hge
   ·exact absurd ⟨k, hlt, hk⟩ hh
   ·exact hge
open Classical in
theorem rH {c : Code} (I : Nat → Act → World → Prop) (zero : ∀ a w, ¬ I 0 a w)
  (round : ∀ j a w, I (j + 1) a w → c.wpIn F n P (Exit.then (fun a' w' => I j a' w') Q) a w) (j : Nat) (h : I j a w) : (Code.loop c).wpIn F n P Q a w := by
 let J : Act → World → Prop := fun a w => ∃ i, I i a w ∧ ∀ k, I k a w → i ≤ k
 let μ : Act → World → Nat := fun a w => if h : J a w then Classical.choose h else 0
 refine wpIn_loop J μ (SF (p := fun i => I i a w) j h) (fun a w hJ => ?_)
 have hm : μ a w = Classical.choose hJ := by simp only [μ]; rw [dif_pos hJ]
 have hf := Classical.choose_spec hJ
 rw [← hm] at hf
 cases hn : μ a w with
 | zero => rw [hn] at hf; exact absurd hf.1 (zero a w)
 | succ i =>
  rw [hn] at hf
  refine wpIn_mono (round i a w hf.1) (fun e a' w' hq => ?_)
  cases e with
  | normal =>
   have hJ' : J a' w' := SF (p := fun i => I i a' w') i hq
   have hm' : μ a' w' = Classical.choose hJ' := by simp only [μ]; rw [dif_pos hJ']
   have := (Classical.choose_spec hJ').2 i hq
   exact ⟨hJ', by omega⟩
  | _ => exact hq
end
theorem Mem.fG (m : Mem) : m.with [] = m := by funext b; simp [Mem.with]
theorem Mem.zQ (m : Mem) (D D' : List Nat) : (m.with D).with D' = m.with (D' ++ D) := by
 funext b
 simp only [Mem.with, List.mem_append]
 by_cases h : b ∈ D' <;> by_cases h2 : b ∈ D <;> simp [h, h2]
theorem Mem.GN {m : Mem} {D : List Nat} (h : ∀ r ∈ D, m r = none) : MLe m (m.with D) := ⟨fun b c t f hb => by
 have : b ∉ D := fun hd => by rw [h b hd] at hb; cases hb
 simp [Mem.with, this, hb]⟩
theorem Mem.G5 {m : Mem} {D : List Nat} : MLe (m.with D) m := ⟨fun b c t f hb => by
 unfold Mem.with at hb
 by_cases hd : b ∈ D
 ·rw [if_pos hd] at hb; cases hb
 ·rw [if_neg hd] at hb; exact hb⟩
theorem rQ.nil (m : Mem) : rQ m [] := ⟨.nil, fun _ h => by cases h⟩
theorem rQ.append {m : Mem} {D D' : List Nat} (h : rQ m D) (h' : rQ (m.with D) D') : rQ m (D' ++ D) := by
 have key : ∀ r ∈ D', m r = Option.none ∧ r ∉ D := fun r hr => by
  have := h'.none r hr
  unfold Mem.with at this
  by_cases hd : r ∈ D
  ·rw [if_pos hd] at this; cases this
  ·rw [if_neg hd] at this; exact ⟨this, hd⟩
 refine ⟨List.nodup_append.2 ⟨h'.nodup, h.nodup, fun a ha b hb e => (key a ha).2 (e ▸ hb)⟩, fun r hr => ?_⟩
 rcases List.mem_append.1 hr with hr | hr
 ·exact (key r hr).1
 ·exact h.none r hr
theorem RN.mono {ρ ρ' : Ren} (h : iG ρ ρ') {x y : Option Nat} (hr : RN ρ x y) : RN ρ' x y := by
 cases hr with
 | none => exact .none
 | some id r hid => exact .some id r (h id r hid)
def nY (P : Program) (rec : Rec) : Prop := ∀ fn rnd c, sN P rnd c (rec fn rnd c)
theorem RV.Z0 {ρ : Ren} {m : Mem} {l : List a9} {xs : List Value} (h : RV ρ m l xs) : RL ρ m l xs.toArray := by
 induction h with
 | nil => exact .nil
 | cons hx ht ih =>
  refine ⟨by simpa using ih.len, fun i v x hv hx' => ?_⟩
  cases i with
  | zero => simp at hv hx'; subst hv; subst hx'; exact hx
  | succ i => exact ih.at_ i v x (by simpa using hv) (by simpa using hx')
theorem Rel.drop {P : Program} {ρ : Ren} {m : Mem} {h : Nat → Option Blk} {w : World} {r : Nat} {D : List Nat} (hr : Rel P ρ (m.with (r :: D)) h w) (hm : rQ m (r :: D)) (o : Obj) : Rel P ρ (m.with D) h (World.upd w r o) := by
 have hg : w.heap[r]? = some (.deferred (some [])) := hr.mem r _ (by simp [Mem.with])
 have hlt := fZ hg
 have hle : MLe (m.with (r :: D)) (m.with D) := ⟨fun b c t f hb => by
  have := Mem.G5.le b c t f hb
  unfold Mem.with at hb ⊢
  by_cases hd : b ∈ D
  ·simp [hd] at hb
  ·simp [hd, this]⟩
 refine ⟨fun id b hb => ?_, hr.inj, fun b ob hb => ?_⟩
 ·obtain ⟨rb, ob, h1, h2, h3, h4⟩ := hr.eT id b hb
  have hn : rb.b ∉ r :: D := fun hx => by unfold Mem.with at h4; rw [if_pos hx] at h4; cases h4
  have hn' : rb.b ≠ r := fun hx => hn (hx ▸ List.mem_cons_self)
  have hn2 : rb.b ∉ D := fun hx => hn (List.mem_cons_of_mem _ hx)
  refine ⟨rb, ob, h1, ?_, h3.mono (.refl ρ) hle, ?_⟩
  ·rw [World.qK _ _ _ hlt, if_neg hn']; exact h2
  ·unfold Mem.with at h4 ⊢; rw [if_neg hn] at h4; rw [if_neg hn2]; exact h4
 ·have hne : b ≠ r := fun hx => by
   subst hx
   have h1 : b ∉ D := (List.nodup_cons.1 hm.nodup).1
   have h2 := hm.none b List.mem_cons_self
   unfold Mem.with at hb
   rw [if_neg h1, h2] at hb
   cases hb
  rw [World.qK _ _ _ hlt, if_neg hne]
  refine hr.mem b ob ?_
  unfold Mem.with at hb ⊢
  by_cases hd : b ∈ D
  ·rw [if_pos hd] at hb; rw [if_pos (List.mem_cons_of_mem _ hd)]; exact hb
  ·rw [if_neg hd] at hb; rw [if_neg (by simp [hne, hd])]; exact hb
theorem V4 {P : Program} {ρ : Ren} {m : Mem} {h : Nat → Option Blk} {n : Nat} {fn : Func} {tmps : Array Value} {R : Ending → World → Prop} : ∀ (D : List Nat) (w : World), Rel P ρ (m.with D) h w → rQ m D →
  (∀ w', Rel P ρ m h w' → Fr w w' → ∃ v, (results fn tmps).run P w' = .ok v w' ∧ R (.returned v) w') → LeavesInM (Fw none) n P fn tmps R (D.map mk) .returning w := by
 intro D
 induction D with
 | nil =>
  intro w hr hm hk
  rw [Mem.fG] at hr
  exact hk w hr (.refl w)
 | cons r D ih =>
  intro w hr hm hk
  have hg : w.heap[r]? = some (.deferred (some [])) := hr.mem r _ (by simp [Mem.with])
  refine ⟨by simp, .inl ⟨r, World.upd w r (.deferred none), rfl, ?_, ?_⟩⟩
  ·simp only [Instr.takeDeferred, Sem.run_bind, iN hg (fun _ _ _ h => by cases h), Result.andThen_ok, i7 hg (fun _ _ _ h => by cases h), Sem.run_pure]
  ·exact ih _ (hr.drop hm _) ⟨(List.nodup_cons.1 hm.nodup).2, fun q hq => hm.none q (List.mem_cons_of_mem _ hq)⟩ (fun w' h1 h2 => hk w' h1 ((World.pA _ _ _).trans h2))
variable {E : Env}
section
variable {ρ : Ren} {m : Mem} {s s' : St} {w : World} {v : a9}
def AY (a : Array Value) : ResultVar → Sem Value
 | .tmp t => pure (a.getD t Go.undef)
 | .cell c t => do loadVar t (← asAddr (a.getD c Go.undef))
theorem AX {tm : List a9} {a : Array Value} (ht : RL ρ m tm a) : ∀ (rs : List ResultVar) {l : List a9} {s s' : St}, (bL E tm rs).run s = .ok l s' → cF s' → Rel E.P ρ m s.heap.get w →
  ∃ xs, (rs.mapM (AY a)).run E.P w = .ok xs w ∧ RV ρ m l xs ∧ gL s s' := by
 intro rs
 induction rs with
 | nil =>
  intro l s s' h ho hr
  obtain ⟨rfl, rfl⟩ := aC h
  exact ⟨[], rfl, .nil, .refl _⟩
 | cons r rs ih =>
  intro l s s' h ho hr
  have hopd : ∀ t, R ρ m (nth tm t undef) (a.getD t Go.undef) := fun t => cI (a := ⟨a, []⟩) ht (.tmp t)
  cases r with
  | tmp t =>
   obtain ⟨q, s1, h1, h2⟩ := M.aF h
   obtain ⟨rfl, rfl⟩ := aC h2
   obtain ⟨xs, k1, k2, k3⟩ := ih h1 ho hr
   refine ⟨_, ?_, .cons (hopd t) k2, k3⟩
   simp only [List.mapM_cons, AY, Sem.run_bind, Sem.run_pure, Result.andThen_ok, k1]
  | cell c t =>
   obtain ⟨q, s1, h1, h2, ho1, _, _⟩ := M.aH h ho
   obtain ⟨q2, s2, h3, h4⟩ := M.aF h2
   obtain ⟨rfl, rfl⟩ := aC h4
   obtain ⟨ad, y, g1, g2, g3, g4⟩ := GM h1 ho1 hr (hopd c)
   obtain ⟨xs, k1, k2, k3⟩ := ih h3 ho (hr.bY g4)
   refine ⟨_, ?_, .cons g3 k2, g4.trans k3⟩
   simp only [List.mapM_cons, AY, Sem.run_bind, Sem.run_pure, Result.andThen_ok, g1, asAddr, g2, k1]
theorem JB {fn : Func} {tm : List a9} {a : Array Value} (ht : RL ρ m tm a) (h : (dJ E tm fn.results.toList).run s = .ok v s') (ho : cF s') (hr : Rel E.P ρ m s.heap.get w) :
  ∃ x, (results fn a).run E.P w = .ok x w ∧ R ρ m v x ∧ gL s s' := by
 obtain ⟨l, s1, h1, h2⟩ := M.aF h
 obtain ⟨rfl, rfl⟩ := aC h2
 obtain ⟨xs, k1, k2, k3⟩ := AX ht _ h1 ho hr
 have e : (results fn a) = (do let vs ← fn.results.mapM (AY a); pure (if h : vs.size = 1 then vs[0] else .tuple vs)) := rfl
 rw [e, ← Array.toArray_toList (xs := fn.results), List.mapM_toArray]
 simp only [Sem.run_bind, Sem.run_map, k1, Result.andThen_ok, Sem.run_pure]
 refine ⟨_, rfl, ?_, k3⟩
 cases k2 with
 | nil => exact .tup _ _ rfl (fun i v x hv => by simp at hv)
 | cons hx ht =>
  cases ht with
  | nil => simpa [bO] using hx
  | cons hy ht =>
   rename_i a1 x1 a2 x2 l xs
   have hne : ¬ (x1 :: x2 :: xs).toArray.size = 1 := by simp
   rw [dif_neg hne]
   have hl : RV ρ m (a1 :: a2 :: l) (x1 :: x2 :: xs) := .cons hx (.cons hy ht)
   have : RL ρ m (a1 :: a2 :: l) (x1 :: x2 :: xs).toArray := hl.Z0
   exact .tup _ _ this.len this.at_
end
end Go.Am
set_option linter.unusedSimpArgs false
set_option linter.unusedVariables false
namespace Go.Am
open Go
variable {E : Env}
section
variable {ρ : Ren} {m : Mem} {s s' : St} {w : World} {v : a9}
theorem RL.T3 (k : Nat) : RL ρ m (List.replicate k undef) (Array.replicate k Go.undef) := by
 refine ⟨by simp, fun i v x hv hx => ?_⟩
 simp only [List.getElem?_replicate, Array.getElem?_replicate] at hv hx
 split at hv
 ·simp only [Option.some.injEq] at hv
  rename_i hi
  rw [if_pos hi] at hx
  simp only [Option.some.injEq] at hx
  subst hv; subst hx
  exact lQ
 ·cases hv
theorem fF.RJ {P : Program} {ρ' : Ren} {D : List Nat} {s1 : St} {w1 w2 : World} (h : fF P ρ m s w ρ' (m.with D) s1 w1) (hr : Rel P ρ' m s1.heap.get w2) (hfr : Fr w1 w2) (e : gL s1 s') : fF P ρ m s w ρ' m s' w2 where
 ren := h.ren
 new := fun id hid => (h.new id hid).imp_right fun x => ⟨x.1, by rw [e.next]; exact x.2⟩
 mem := fun _ _ h => h
 rel := hr.bY e
 fr := h.fr.trans hfr
 next := by rw [e.next]; exact h.next
theorem nU {rec : Rec} (hrec : nY E.P rec) (f : FuncId) : lP E.P f (bM E rec f) := by
 intro args s v s' h ho ρ m w xs hr hf hx
 unfold bM at h
 split at h
 ·rename_i hb
  have hfok := (E.funcs.find f).ok
  rw [Nat.eq_of_beq_eq_true hb] at hfok
  obtain ⟨fn, h1, h2, h3, h4⟩ := hfok.fn
  obtain ⟨r, s1, k1, k2, ho1, n1, n2⟩ := M.aH h ho
  obtain ⟨e, tm'⟩ := r
  refine .inl ⟨hfok.call xs w, (callsIn_wide (n := 0)).1 (callsIn_of_wp_marks (F := Fw none) h1 h2 trivial ?_)⟩
  refine hrec f none _ _ _ _ s s1 k1 ho1 ρ m w { tmps := xs ++ Array.replicate (fn.ntmps - xs.size) Go.undef, defers := [] } none 0 _ hr (hf.fst n2) ?_ .none ?_
  ·have : RL ρ m (args ++ List.replicate ((E.funcs.find f).i.ntmps - args.length) undef) (xs ++ Array.replicate (fn.ntmps - xs.size) Go.undef) := by
    rw [h3, hx.len]
    exact hx.append (RL.T3 _)
   exact this
  ·intro e' a' w' ρ' D he
   have fin : ∀ (k2 : (dJ E tm' (E.funcs.find f).i.results).run s1 = .ok v s'), LeavesInM (Fw none) 0 E.P fn a'.tmps (fun e w' => ∃ v_1, e = .returned v_1 ∧ ∃ ρ', fF E.P ρ m s w ρ' m s' w' ∧ R ρ' m v v_1) a'.defers .returning w' := by
    intro k2
    have hd := he.defers
    rw [List.append_nil] at hd
    rw [hd]
    refine V4 D w' he.post.rel he.tE (fun w'' hr'' hfr => ?_)
    rw [← h4] at k2
    obtain ⟨x, q1, q2, q3⟩ := JB (he.tmps.mono (.refl _) Mem.G5) k2 ho hr''
    exact ⟨x, q1, x, rfl, ρ', he.post.RJ hr'' hfr q3, q2⟩
   have hex := he.ex
   cases e with
   | normal => cases hex; exact fin k2
   | ret => cases hex; exact fin k2
   | exit id => exact (aD k2).elim
 ·exact (aD h).elim
theorem A5 : ∀ (l : List (u0 E.P)) {f : FuncId} {args : List a9} {k : M a9}, (pU E l f args k).run s = .ok v s' → (∃ h ∈ l, h.f = f ∧ (h.act args).run s = .ok v s') ∨ k.run s = .ok v s'
 | [], _, _, _, h => .inr h
 | q :: l, f, args, k, h => by
  unfold pU at h
  split at h
  ·rename_i hb
   exact .inl ⟨q, List.mem_cons_self, Nat.eq_of_beq_eq_true hb, h⟩
  ·rcases A5 l h with ⟨q', hm, he, hr⟩ | h
   ·exact .inl ⟨q', List.mem_cons_of_mem _ hm, he, hr⟩
   ·exact .inr h
theorem AK {rec : Rec} (hrec : nY E.P rec) (f : FuncId) : lP E.P f (gX E rec f) := by
 intro args s v s' h ho ρ m w xs hr hf hx
 rcases A5 E.xL h with ⟨q, _, rfl, hq⟩ | h
 ·exact q.ok args s v s' hq ho ρ m w xs hr hf hx
 ·exact nU hrec f args s v s' h ho ρ m w xs hr hf hx
theorem Rel.loop {P : Program} {h : Nat → Option Blk} (hr : Rel P ρ m h w) {id : Nat} {l : lE} (hg : h id = some (.loop l)) {r : RB} (hρ : ρ id = some r) :
  ∃ L, w.heap[r.b]? = some (.loop L) ∧ L.state = l.state ∧ L.pending = l.pending ∧ RL ρ m l.tmps L.tmps ∧ L.params.toList = l.params ∧ L.assign = l.assign ∧ L.body = l.body := by
 obtain ⟨rb, o, h1, h2, h3, h4⟩ := hr.eT id _ hg
 rw [hρ] at h1
 injection h1 with h1
 subst h1
 cases h3 with
 | loop l L a b c d e f => exact ⟨L, h2, a, b, c, d, e, f⟩
theorem l7 {P : Program} {b : Nat} {L : Loop} (h : w.heap[b]? = some (.loop L)) : (Instr.getLoop b).run P w = .ok L w := by
 simp only [Instr.getLoop, Sem.run_bind, iN h (fun _ _ _ h => by cases h), Result.andThen_ok, Sem.run_pure]
theorem fF.upd {P : Program} (hr : Rel P ρ m s.heap.get w) {id : Nat} {b0 b : Blk} {o : Obj} {r : RB} (hg : s.heap.get id = some b0) (hρ : ρ id = some r) (hb : BR P ρ m r b o) (hn : s'.next = s.next)
  (hh : ∀ j, s'.heap.get j = if j = id then some b else s.heap.get j) : fF P ρ m s w ρ m s' (World.upd w r.b o) where
 ren := .refl ρ
 new := fun _ h => .inl h
 mem := fun _ _ h => h
 rel := hr.upd hg hρ hb hh
 fr := World.pA _ _ _
 next := by omega
theorem wY : ∀ (ps : List (Tmp × a9)) (qs : List (Tmp × Value)) (tm : List a9) (a : Array Value), RL ρ m tm a → ps.map (·.1) = qs.map (·.1) → RV ρ m (ps.map (·.2)) (qs.map (·.2)) →
  RL ρ m (mD tm ps) (qs.foldl (fun tmps (t, a) => tmps.setIfInBounds t a) a)
 | [], [], tm, a, h, _, _ => h
 | [], q :: qs, tm, a, h, h1, _ => by simp at h1
 | p :: ps, [], tm, a, h, h1, _ => by simp at h1
 | (t, v) :: ps, (t', x) :: qs, tm, a, h, h1, h2 => by
  simp only [List.map_cons, List.cons.injEq] at h1
  obtain ⟨rfl, h1⟩ := h1
  cases h2 with
  | cons hv h2 => exact wY ps qs _ _ (qO (a := ⟨a, []⟩) h (some t) hv) h1 h2
theorem RV.length {l : List a9} {xs : List Value} (h : RV ρ m l xs) : l.length = xs.length := by
 induction h with
 | nil => rfl
 | cons _ _ ih => simp [ih]
theorem C5 {rec : Rec} (hrec : nY E.P rec) {id : Nat} {args : List a9} (h : (sO rec id args).run s = .ok v s') (ho : cF s') (hr : Rel E.P ρ m s.heap.get w) (hf : fK ρ s s') {xs : Array Value} (hx : RL ρ m args xs)
  {r : RB} (hρ : ρ id = some r) (o : Option Nat) (n : Nat) :
  ∃ f tmps assign body, (Instr.yield r.b xs).run E.P w = .ok (.round r.b f tmps assign body) w ∧ RoundIn (Fw o) n E.P r.b f tmps assign body w fun e w' => ∃ x, e = .returned x ∧ ∃ ρ', fF E.P ρ m s w ρ' m s' w' ∧ R ρ' m v x := by
 obtain ⟨b, s1, h1, h2, ho1, _, n1⟩ := M.aH h ho
 obtain ⟨hg, e1⟩ := eC h1
 obtain ⟨l, rfl, h3⟩ := pQ h2
 split at h3
 ·exact (aD h3).elim
 rename_i hlen
 split at h3
 case h_2 => exact (aD h3).elim
 rename_i hst
 obtain ⟨⟨e, tm1⟩, s2, h4, h5, ho2, n2, n2'⟩ := M.aH h3 ho
 cases e with
 | ret => exact (aD h5).elim
 | exit j => exact (aD h5).elim
 | normal =>
 obtain ⟨b2, s3, h6, h7, ho3, n3, n3'⟩ := M.aH h5 ho
 obtain ⟨hg2, e3⟩ := eC h6
 obtain ⟨l2, rfl, h8⟩ := pQ h7
 split at h8
 case h_2 => exact (aD h8).elim
 rename_i hst2
 obtain ⟨_, s4, h9, h10, ho4, n4, n4'⟩ := M.aH h8 ho
 obtain ⟨⟨e2, tm2⟩, s5, h11, h12, ho5, n5, n5'⟩ := M.aH h10 ho
 obtain ⟨b3, s6, h13, h14, ho6, n6, n6'⟩ := M.aH h12 ho
 obtain ⟨hg3, e6⟩ := eC h13
 obtain ⟨l3, rfl, h15⟩ := pQ h14
 obtain ⟨_, s7, h16, h17⟩ := M.aF h15
 obtain ⟨rfl, rfl⟩ := aC h17
 obtain ⟨L, q1, q2, q3, q4, q5, q6, q7⟩ := hr.loop hg hρ
 have hpl : L.params.size = xs.size := by
  have := Nat.eq_of_beq_eq_true hlen
  rw [← hx.len, this, ← q5]; simp
 refine ⟨L.fn, (L.params.zip xs).foldl (fun tmps (t, a) => tmps.setIfInBounds t a) L.tmps, L.assign, L.body, ?_, roundIn_of_wpIn (F := Fw o) trivial ?_⟩
 ·have hne : ¬ xs.size ≠ L.params.size := fun h => h hpl.symm
  simp only [Instr.yield, Sem.run_bind, l7 q1, Result.andThen_ok, hne, if_false, Sem.run_pure]
 ·have hr1 := hr.bY e1
  have hf1 := hf.bY e1
  rw [← q6] at h4
  have ht0 : RL ρ m (mD l.tmps (l.params.zip args)) ((L.params.zip xs).foldl (fun tmps (t, a) => tmps.setIfInBounds t a) L.tmps) := by
   rw [← Array.foldl_toList, Array.toList_zip, q5]
   have hv := RV.array hx
   have hl : l.params.length = args.length := (Nat.eq_of_beq_eq_true hlen).symm
   have hl' : l.params.length = xs.toList.length := by rw [hl, hv.length]
   exact wY _ _ _ _ q4 (by rw [List.map_fst_zip (by omega), List.map_fst_zip (by omega)]) (by rw [List.map_snd_zip (by omega), List.map_snd_zip (by omega)]; exact hv)
  refine hrec l.fn (some id) _ _ _ _ s1 s2 h4 ho2 ρ m w { tmps := _, defers := [] } (some r.b) n _ hr1 (hf1.fst n2') ht0 (.some id r hρ) ?_
  intro e' a1 w1 ρ1 D he
  have hD := he.inRound (by simp)
  subst hD
  have hex := he.ex
  cases hex
  have hp1 := he.post
  rw [Mem.fG] at hp1
  have ht1 := he.tmps
  rw [Mem.fG] at ht1
  have hρ1 := hp1.ren id r hρ
  have hr3 := hp1.rel.bY e3
  have hg2' : s3.heap.get id = some (.loop l2) := by rw [e3.heap]; exact hg2
  obtain ⟨L2, g1, g2, g3, g4, g5, g6, g7⟩ := hp1.rel.loop hg2 hρ1
  obtain ⟨_, hn4, hset4⟩ := pF h9
  refine ⟨World.upd w1 r.b (.loop { L2 with state := .busy }), ?_, ?_⟩
  ·have : L2.state = .ready := by rw [g2, hst2]
   simp only [Instr.beginRound, Sem.run_bind, l7 g1, Result.andThen_ok, i7 g1 (fun _ _ _ h => by cases h), this, Sem.run_pure]
  ·have hp4 : fF E.P ρ1 m s3 w1 ρ1 m s4 (World.upd w1 r.b (.loop { L2 with state := .busy })) :=
    .upd hr3 hg2' hρ1 (.loop r { l2 with state := .busy } _ rfl g3 g4 g5 g6 g7) hn4 hset4
   have hp14 : fF E.P ρ m s w ρ1 m s4 (World.upd w1 r.b (.loop { L2 with state := .busy })) := (hp1.after e1).trans (hp4.after e3)
   have hbody : L.body = l.body := q7
   rw [← hbody] at h11
   refine hrec l.fn (some id) _ _ _ _ s4 s5 h11 ho5 ρ1 m _ a1 (some r.b) n _ hp4.rel ((hf.snd hp14).fst (by omega)) ht1 (.some id r hρ1) ?_
   intro e2' a2 w2 ρ2 D2 he2
   have hD2 := he2.inRound (by simp)
   subst hD2
   have hp5 := he2.post
   rw [Mem.fG] at hp5
   have hρ2 := hp5.ren id r hρ1
   have hr6 := hp5.rel.bY e6
   have hg3' : s6.heap.get id = some (.loop l3) := by rw [e6.heap]; exact hg3
   obtain ⟨L3, k1, k2, k3, k4, k5, k6, k7⟩ := hp5.rel.loop hg3 hρ2
   obtain ⟨_, hn7, hset7⟩ := pF h16
   have hrun : ∀ j : Option Code, (Instr.endRound r.b j).run E.P w2 = .ok (.bool j.isNone) (World.upd w2 r.b (.loop { L3 with state := if j.isNone then .ready else .done, pending := j })) := fun j => by
    simp only [Instr.endRound, Sem.run_bind, l7 k1, Result.andThen_ok, i7 k1 (fun _ _ _ h => by cases h), Sem.run_pure]
   have hfin : ∀ j : Option Code, uK e2 = j → j.isNone = vC e2 → ∃ x, Ending.returned (.bool j.isNone) = .returned x ∧
     ∃ ρ', fF E.P ρ m s w ρ' m s' (World.upd w2 r.b (.loop { L3 with state := if j.isNone then .ready else .done, pending := j })) ∧ R ρ' m (.gY (vC e2)) x := by
    intro j hj hjn
    refine ⟨_, rfl, ρ2, ?_, hjn ▸ .gY _⟩
    have hp7 : fF E.P ρ2 m s6 w2 ρ2 m s' (World.upd w2 r.b (.loop { L3 with state := if j.isNone then .ready else .done, pending := j })) := by
     refine .upd hr6 hg3' hρ2 (.loop r { l3 with state := (match vC e2 with | true => .ready | false => .done), pending := uK e2 } _ ?_ hj.symm k4 k5 k6 k7) hn7 hset7
     simp only [hjn]
     cases vC e2 <;> rfl
    exact hp14.trans (hp5.trans (hp7.after e6))
   have hex2 := he2.ex
   cases hex2 with
   | normal => exact ⟨_, _, hrun none, hfin none rfl rfl⟩
   | ret => exact ⟨_, _, hrun (some .ret), hfin (some .ret) rfl rfl⟩
   | exit j => exact ⟨_, _, hrun (some (.exit j)), hfin (some (.exit j)) rfl rfl⟩
theorem UT {rec : Rec} (hrec : nY E.P rec) {o : Oper} {tm : List a9} {a : Act} (h : (execOp E rec tm o.op).run s = .ok v s') (ho : cF s') (hr : Rel E.P ρ m s.heap.get w) (hf : fK ρ s s') (ht : RL ρ m tm a.tmps)
  {ro : Option Nat} {n : Nat} {next : Act → World → Prop} {Q : Exit → Act → World → Prop} (hk : ∀ x w' ρ', fF E.P ρ m s w ρ' m s' w' → R ρ' m v x → next (a.put o.dst x) w') : o.wpIn (Fw ro) n E.P a w next Q := by
 refine ⟨fun _ _ => trivial, ?_⟩
 have hsem : o.semAt (Fw ro).round a.eval = Go.execOp a.eval o := by
  refine Oper.semAt_eq _ _ _ (fun c hc => ?_)
  rw [hc] at h
  exact (aD h).elim
 rw [hsem]
 by_cases hcall : ∃ c f, o.op = .call c ∧ c.callee = .value f
 ·obtain ⟨c, f, hoc, hcf⟩ := hcall
  obtain ⟨dst, op, type, pos, after, guard⟩ := o
  simp only at hoc
  subst hoc
  obtain ⟨callee, cargs, ctys⟩ := c
  simp only at hcf
  subst hcf
  have h : (kG E rec (opd tm f) (dY tm cargs.toList)).run s = .ok v s' := h
  have hfv := cI ht f
  have hav := xD ht cargs
  unfold kG at h
  split at h
  ·rename_i g first cap hfe
   rw [hfe] at hfv
   cases hvf : a.eval f with
   | func g' first' cap' =>
    rw [hvf] at hfv
    cases hfv with
    | fn _ _ _ _ _ _ hg hxl hyl hxa hya =>
    split at h
    ·rename_i gf
     cases hg
     have hargs : RL ρ m (first ++ dY tm cargs.toList ++ cap) (first' ++ cargs.map a.eval ++ cap') := (RL.append ⟨hxl, hxa⟩ hav).append ⟨hyl, hya⟩
     have := AK hrec gf _ s v s' h ho ρ m w _ hr hf hargs
     have hrun : (Go.execOp a.eval { dst, op := .call { callee := .value f, args := cargs, argTypes := ctys }, type, pos, after, guard }).run E.P w = (callFunc gf (first' ++ cargs.map a.eval ++ cap')).run E.P w := by
      simp only [Go.execOp, resolve, hvf, Deferred.ofValue, Sem.run_bind, Sem.run_pure, Result.andThen_ok, invoke]
     rw [hrun]
     rcases this with ⟨he, hc⟩ | ⟨x, w', he, ρ', hp, hx⟩
     ·rw [he]
      refine ⟨Fw.depth _, Fw.SU (hc.mono (fun e w' hh => ?_))⟩
      obtain ⟨x, rfl, ρ', hp, hx⟩ := hh
      exact hk x w' ρ' hp hx
     ·rw [he]
      exact hk x w' ρ' hp hx
    ·rename_i id
     split at h
     ·cases hg with
      | yield _ r hρ =>
      have hf0 : first' = #[] := Array.eq_empty_of_size_eq_zero (by rw [← hxl]; rfl)
      subst hf0
      obtain ⟨f2, tmps, assign, body, k1, k2⟩ := C5 hrec h ho hr hf hav hρ ro (n - 1)
      have hrun : (Go.execOp a.eval { dst, op := .call { callee := .value f, args := cargs, argTypes := ctys }, type, pos, after, guard }).run E.P w = (Instr.yield r.b (cargs.map a.eval)).run E.P w := by
       simp only [Go.execOp, resolve, hvf, Deferred.ofValue, Sem.run_bind, Sem.run_pure, Result.andThen_ok, invoke, Array.empty_append]
      rw [hrun, k1]
      refine ⟨Fw.depth _, k2.mono (fun e w' hh => ?_)⟩
      obtain ⟨x, rfl, ρ', hp, hx⟩ := hh
      exact hk x w' ρ' hp hx
     ·exact (aD h).elim
    ·exact (aD h).elim
   | _ => rw [hvf] at hfv; cases hfv
  ·exact (aD h).elim
 ·obtain ⟨x, w', ρ', h1, h2, h3⟩ := F8 h ho hr hf ht (fun c f hc hf => hcall ⟨c, f, hc, hf⟩)
  rcases h1 with h1 | ⟨h1, rfl⟩
  ·rw [h1]; exact hk x w' ρ' h2 h3
  ·rw [h1]; exact hk _ w' ρ' h2 h3
theorem B3 {rec : Rec} (hrec : nY E.P rec) {ops : Array Oper} {o : Oper} {tm : List a9} {a : Act} (h : (opV E rec ops.toList o tm).run s = .ok v s') (ho : cF s') (hr : Rel E.P ρ m s.heap.get w) (hf : fK ρ s s') (ht : RL ρ m tm a.tmps)
  {ro : Option Nat} {n : Nat} {next : Act → World → Prop} {Q : Exit → Act → World → Prop}
  (hk : ∀ x w' ρ', fF E.P ρ m s w ρ' m s' w' → R ρ' m v x → next (a.put o.dst x) w') :
  if Region.wanted o (yielded ops a.tmps) then o.wpIn (Fw ro) n E.P a w next Q else (∀ f, o.about E.P w a.eval = some f → (Fw ro).fn f) ∧ next (a.put o.dst Go.undef) w := by
 obtain ⟨b, s1, h1, h2, ho1, _, n1⟩ := M.aH h ho
 obtain ⟨e1, hw⟩ := E6 h1 ho1 ht
 cases b with
 | true =>
  rw [if_pos hw]
  exact UT hrec h2 ho (hr.bY e1) (hf.bY e1) ht (fun x w' ρ' hp hx => hk x w' ρ' (hp.after e1) hx)
 | false =>
  rw [if_neg (by rw [hw]; simp)]
  obtain ⟨rfl, rfl⟩ := aC h2
  exact ⟨fun _ _ => trivial, hk _ w ρ (.bY hr e1) lQ⟩
theorem LY {rec : Rec} (hrec : nY E.P rec) {ops : Array Oper} {o : Oper} {tm tm' : List a9} {a : Act} (h : (IE E rec ops.toList o tm).run s = .ok tm' s') (ho : cF s') (hr : Rel E.P ρ m s.heap.get w) (hf : fK ρ s s') (ht : RL ρ m tm a.tmps)
  {ro : Option Nat} {n : Nat} {next : Act → World → Prop} {Q : Exit → Act → World → Prop}
  (hk : ∀ x v w' ρ', fF E.P ρ m s w ρ' m s' w' → tm' = bX tm o.dst v → R ρ' m v x → RL ρ' m tm' (a.put o.dst x).tmps → next (a.put o.dst x) w') :
  if Region.wanted o (yielded ops a.tmps) then o.wpIn (Fw ro) n E.P a w next Q else (∀ f, o.about E.P w a.eval = some f → (Fw ro).fn f) ∧ next (a.put o.dst Go.undef) w := by
 obtain ⟨v, s1, h1, h2⟩ := M.aF h
 obtain ⟨rfl, rfl⟩ := aC h2
 exact B3 hrec h1 ho hr hf ht (fun x w' ρ' hp hx => hk x v w' ρ' hp rfl hx (qO (ht.mono hp.ren hp.mle) o.dst hx))
theorem Act.mC (a : Act) (d : Option Tmp) (x : Value) : (a.put d x).defers = a.defers := by cases d <;> rfl
theorem vG {rec : Rec} (hrec : nY E.P rec) {ops : Array Oper} {ro : Option Nat} {n : Nat} {Q : Exit → Act → World → Prop} : ∀ (l : List Oper) {tm tm' : List a9} {s : St} {ρ : Ren} {w : World} {a : Act}, (kY E rec ops.toList l tm).run s = .ok tm' s' → cF s' →
  Rel E.P ρ m s.heap.get w → fK ρ s s' → RL ρ m tm a.tmps → (∀ a' w' ρ', fF E.P ρ m s w ρ' m s' w' → RL ρ' m tm' a'.tmps → a'.defers = a.defers → Q .normal a' w') → wpListIn (Fw ro) n E.P ops Q l a w := by
 intro l
 induction l with
 | nil =>
  intro tm tm' s ρ w a h ho hr hf ht hk
  obtain ⟨rfl, rfl⟩ := aC h
  exact hk a w ρ (.bY hr (.refl _)) ht rfl
 | cons o l ih =>
  intro tm tm' s ρ w a h ho hr hf ht hk
  obtain ⟨tm1, s1, h1, h2, ho1, _, n1⟩ := M.aH h ho
  refine LY hrec h1 ho1 hr (hf.fst n1) ht (fun x v w' ρ' hp _ hx ht' => ?_)
  exact ih h2 ho hp.rel (hf.snd hp) ht' (fun a' w'' ρ'' hp2 ht2 hd => hk a' w'' ρ'' (hp.trans hp2) ht2 (by rw [hd, Act.mC]))
end
end Go.Am
set_option linter.unusedSimpArgs false
set_option linter.unusedVariables false
namespace Go.Am
open Go
variable {E : Env}
section
variable {ρ : Ren} {m : Mem} {s s' : St} {w : World} {v : a9}
theorem jL.CB {P : Program} {o : Option Nat} {a : Act} {e : fV} {e' : Exit} {tm : List a9} (hr : Rel P ρ m s.heap.get w) (es : gL s s') (ht : RL ρ m tm a.tmps) (hx : RX e e') : jL P ρ m s w o a e tm s' e' a w ρ [] where
 post := by rw [Mem.fG]; exact .bY hr es
 tmps := by rw [Mem.fG]; exact ht
 ex := hx
 defers := rfl
 tE := .nil m
 inRound := fun _ => rfl
theorem jL.trans {P : Program} {o : Option Nat} {a a1 a2 : Act} {e : fV} {e2 : fV} {tm1 tm2 : List a9} {s1 s2 : St} {e1 : Exit} {e2' : Exit} {w1 w2 : World} {ρ1 ρ2 : Ren} {D D' : List Nat}
  (h : jL P ρ m s w o a e tm1 s1 e1 a1 w1 ρ1 D) (h' : jL P ρ1 (m.with D) s1 w1 o a1 e2 tm2 s2 e2' a2 w2 ρ2 D') : jL P ρ m s w o a e2 tm2 s2 e2' a2 w2 ρ2 (D' ++ D) where
 post := by
  have := h'.post
  rw [Mem.zQ] at this
  exact h.post.trans this
 tmps := by rw [← Mem.zQ]; exact h'.tmps
 ex := h'.ex
 defers := by rw [h'.defers, h.defers]; simp
 tE := h.tE.append h'.tE
 inRound := fun ho => by rw [h.inRound ho, h'.inRound ho]; rfl
theorem jL.exit {P : Program} {o : Option Nat} {a a1 : Act} {e e2 : fV} {tm1 : List a9} {s1 : St} {e1 e2' : Exit} {w1 : World} {ρ1 : Ren} {D : List Nat}
  (h : jL P ρ m s w o a e tm1 s1 e1 a1 w1 ρ1 D) (hx : RX e2 e2') : jL P ρ m s w o a e2 tm1 s1 e2' a1 w1 ρ1 D := ⟨h.post, h.tmps, hx, h.defers, h.tE, h.inRound⟩
theorem jL.after {P : Program} {o : Option Nat} {a a1 : Act} {e : fV} {tm1 : List a9} {s0 s1 : St} {e1 : Exit} {w1 : World} {ρ1 : Ren} {D : List Nat}
  (h : jL P ρ m s w o a e tm1 s1 e1 a1 w1 ρ1 D) (es : gL s0 s) : jL P ρ m s0 w o a e tm1 s1 e1 a1 w1 ρ1 D := ⟨h.post.after es, h.tmps, h.ex, h.defers, h.tE, h.inRound⟩
theorem PZ {rec : Rec} (hrec : nY E.P rec) {fn : FuncId} {rnd : Option Nat} {x y : Code} : sN E.P rnd (.seq x y) (step E rec fn rnd (.seq x y)) := by
 intro tm e tm' s s' h ho ρ m w a o n Q hr hf ht hn hQ
 obtain ⟨⟨e1, tm1⟩, s1, h1, h2, ho1, n1, n1'⟩ := M.aH h ho
 refine wpIn_seq (hrec fn rnd x _ _ _ s s1 h1 ho1 ρ m w a o n _ hr (hf.fst n1') ht hn (fun e' a' w' ρ' D he => ?_))
 have hex := he.ex
 cases e1 with
 | normal =>
  cases hex
  refine hrec fn rnd y _ _ _ s1 s' h2 ho ρ' (m.with D) w' a' o n Q he.post.rel (hf.snd he.post) he.tmps (hn.mono he.post.ren) (fun e2 a2 w2 ρ2 D2 he2 => ?_)
  exact hQ _ _ _ _ _ (he.trans he2)
 | ret =>
  cases hex
  obtain ⟨he1, rfl⟩ := aC h2
  injection he1 with q1 q2
  subst q1; subst q2
  exact hQ _ _ _ _ _ he
 | exit j =>
  cases hex
  obtain ⟨he1, rfl⟩ := aC h2
  injection he1 with q1 q2
  subst q1; subst q2
  exact hQ _ _ _ _ _ he
theorem O6 {rec : Rec} (hrec : nY E.P rec) {fn : FuncId} {rnd : Option Nat} {c : Operand} {x y : Code} : sN E.P rnd (.cond c x y) (step E rec fn rnd (.cond c x y)) := by
 intro tm e tm' s s' h ho ρ m w a o n Q hr hf ht hn hQ
 obtain ⟨t, s1, h1, h2, ho1, n1, n1'⟩ := M.aH h ho
 obtain ⟨hb, e1⟩ := AN h1 ho1
 have hcv : a.eval c = .bool t := by
  have := cI ht c
  rcases hb with hb | hb
  ·rw [hb] at this; exact this.bool_inv
  ·rw [hb] at this; exact this.qD
 refine wpIn_cond hcv ?_
 cases t with
 | true => exact hrec fn rnd x _ _ _ s1 s' h2 ho ρ m w a o n Q (hr.bY e1) (hf.bY e1) ht hn (fun e2 a2 w2 ρ2 D2 he2 => hQ _ _ _ _ _ (he2.after e1))
 | false => exact hrec fn rnd y _ _ _ s1 s' h2 ho ρ m w a o n Q (hr.bY e1) (hf.bY e1) ht hn (fun e2 a2 w2 ρ2 D2 he2 => hQ _ _ _ _ _ (he2.after e1))
theorem JI {rec : Rec} (hrec : nY E.P rec) {fn : FuncId} {rnd : Option Nat} {id : Nat} {c : Code} : sN E.P rnd (.block id c) (step E rec fn rnd (.block id c)) := by
 intro tm e tm' s s' h ho ρ m w a o n Q hr hf ht hn hQ
 simp only [step] at h
 cases hk : gQ E.jR fn id (.block id c) with
 | some act =>
  rw [hk] at h
  exact tV hk rnd tm e tm' s s' h ho ρ m w a o n Q hr hf ht hn hQ
 | none =>
 rw [hk] at h
 obtain ⟨⟨e1, tm1⟩, s1, h1, h2, ho1, n1, n1'⟩ := M.aH h ho
 refine wpIn_block (hrec fn rnd c _ _ _ s s1 h1 ho1 ρ m w a o n _ hr (hf.fst n1') ht hn (fun e' a' w' ρ' D he => ?_))
 have hex := he.ex
 cases e1 with
 | normal =>
  cases hex
  obtain ⟨he1, rfl⟩ := aC h2
  injection he1 with q1 q2
  subst q1; subst q2
  exact hQ _ _ _ _ _ he
 | ret =>
  cases hex
  obtain ⟨he1, rfl⟩ := aC h2
  injection he1 with q1 q2
  subst q1; subst q2
  exact hQ _ _ _ _ _ he
 | exit j =>
  cases hex
  simp only at h2
  simp only [Exit.inBlock]
  split at h2
  ·rename_i hb
   rw [if_pos (Nat.eq_of_beq_eq_true hb)]
   obtain ⟨he1, rfl⟩ := aC h2
   injection he1 with q1 q2
   subst q1; subst q2
   exact hQ _ _ _ _ _ (he.exit .normal)
  ·rename_i hb
   rw [if_neg (Nat.ne_of_beq_eq_false hb)]
   obtain ⟨he1, rfl⟩ := aC h2
   injection he1 with q1 q2
   subst q1; subst q2
   exact hQ _ _ _ _ _ he
theorem I1 {rec : Rec} (hrec : nY E.P rec) {fn : FuncId} {rnd : Option Nat} {c : Code} : sN E.P rnd (.scope c) (step E rec fn rnd (.scope c)) := by
 intro tm e tm' s s' h ho ρ m w a o n Q hr hf ht hn hQ
 refine rD (hrec fn rnd c _ _ _ s s' h ho ρ m w a o n _ hr hf ht hn (fun e' a' w' ρ' D he => ?_))
 have hex := he.ex
 cases hex <;> exact hQ _ _ _ _ _ he
theorem D9 {ρ : Ren} {m : Mem} : ∀ (k : List Bool) (tm : List a9), (aE k tm).length = tm.length ∧ ∀ (i : Nat) v, (aE k tm)[i]? = some v → v = .aA ∨ tm[i]? = some v := by
 intro k
 induction k with
 | nil => intro tm; exact ⟨rfl, fun i v h => .inr h⟩
 | cons b k ih =>
  intro tm
  cases tm with
  | nil => exact ⟨rfl, fun i v h => .inr h⟩
  | cons a tm =>
   obtain ⟨h1, h2⟩ := ih tm
   refine ⟨by simp [aE, h1], fun i v h => ?_⟩
   cases i with
   | zero =>
    simp only [aE, List.getElem?_cons_zero] at h ⊢
    injection h with h
    cases b with
    | true => exact .inr (by rw [← h])
    | false => exact .inl h.symm
   | succ i =>
    simp only [aE, List.getElem?_cons_succ] at h ⊢
    exact h2 i v h
theorem sE {ρ : Ren} {m : Mem} {fn : FuncId} {tm : List a9} {c : Array Value} (h : RL ρ m tm c) : RL ρ m (bN E fn tm) c := by
 unfold bN
 split
 ·exact h
 ·rename_i k _
  obtain ⟨h1, h2⟩ := D9 (ρ := ρ) (m := m) k tm
  refine ⟨by rw [h1]; exact h.len, fun i v x hv hx => ?_⟩
  rcases h2 i v hv with rfl | hv
  ·exact .aA x
  ·exact h.at_ i v x hv hx
theorem EF {rec : Rec} (hrec : nY E.P rec) {fn : FuncId} {rnd : Option Nat} {id : Nat} {ops : Array Oper} : sN E.P rnd (.region id ops false) (step E rec fn rnd (.region id ops false)) := by
 intro tm e tm' s s' h ho ρ m w a o n Q hr hf ht hn hQ
 obtain ⟨tm1, s1, h1, h2⟩ := M.aF h
 obtain ⟨he1, rfl⟩ := aC h2
 injection he1 with q1 q2
 subst q1; subst q2
 refine wpIn_region_list (vG hrec ops.toList h1 ho hr hf ht (fun a' w' ρ' hp ht' hd => hQ _ _ _ ρ' [] ⟨?_, ?_, .normal, hd, .nil m, fun _ => rfl⟩))
 ·rw [Mem.fG]; exact hp
 ·rw [Mem.fG]; exact sE ht'
theorem MJ {F : Nat → Rec} {c : Code} {fn : FuncId} {rnd : Option Nat} {k : Nat} (hz : ∀ tm e tm' s s', (F 0 fn rnd (.loop c) tm).run s ≠ .ok (e, tm') s') (hs : ∀ j, j < k → F (j + 1) fn rnd (.loop c) = step E (F j) fn rnd (.loop c))
  (hF : ∀ j, j < k → sN E.P rnd c (F j fn rnd c)) : sN E.P rnd (.loop c) (F k fn rnd (.loop c)) := by
 intro tm e tm' s s' h ho ρ m w a o n Q hr hf ht hn hQ
 let I : Nat → Act → World → Prop := fun j a1 w1 => j ≤ k ∧ ∃ tm1 s1 ρ1 D1, (F j fn rnd (.loop c) tm1).run s1 = .ok (e, tm') s' ∧ jL E.P ρ m s w o a .normal tm1 s1 .normal a1 w1 ρ1 D1
 refine rH I (fun a1 w1 hI => ?_) (fun j a1 w1 hI => ?_) k ⟨Nat.le_refl _, tm, s, ρ, [], h, .CB hr (.refl _) ht .normal⟩
 ·obtain ⟨_, tm1, s1, _, _, h1, _⟩ := hI
  exact hz _ _ _ _ _ h1
 ·obtain ⟨hj, tm1, s1, ρ1, D1, h1, he1⟩ := hI
  rw [hs j (by omega)] at h1
  obtain ⟨⟨e2, tm2⟩, s2, h2, h3, ho2, n2, n2'⟩ := M.aH h1 ho
  refine hF j (by omega) _ _ _ s1 s2 h2 ho2 ρ1 (m.with D1) w1 a1 o n _ he1.post.rel ((hf.snd he1.post).fst n2') he1.tmps (hn.mono he1.post.ren) (fun e' a' w' ρ' D he => ?_)
  have hex := he.ex
  cases e2 with
  | normal =>
   cases hex
   exact ⟨by omega, tm2, s2, ρ', _, h3, he1.trans he⟩
  | ret =>
   cases hex
   obtain ⟨hq, rfl⟩ := aC h3
   injection hq with q1 q2
   subst q1; subst q2
   exact hQ _ _ _ _ _ (he1.trans he)
  | exit j =>
   cases hex
   obtain ⟨hq, rfl⟩ := aC h3
   injection hq with q1 q2
   subst q1; subst q2
   exact hQ _ _ _ _ _ (he1.trans he)
theorem I9 {id : Nat} {tm tm' : List a9} {e : fV} (h : (EG id tm).run s = .ok (e, tm') s') (hr : Rel E.P ρ m s.heap.get w) {r : RB} (hρ : ρ id = some r) :
  tm' = tm ∧ ∃ jump w', (Instr.endLoop r.b).run E.P w = .ok jump w' ∧ jump = uK e ∧ fF E.P ρ m s w ρ m s' w' := by
 obtain ⟨b, s1, h1, h2⟩ := M.aF h
 obtain ⟨hg, e1⟩ := eC h1
 obtain ⟨l, rfl, h3⟩ := pQ h2
 obtain ⟨L, q1, q2, q3, q4, q5, q6, q7⟩ := hr.loop hg hρ
 have hg1 : s1.heap.get id = some (.loop l) := by rw [e1.heap]; exact hg
 have main : l.state ≠ .busy → ((kM id (.loop { l with state := .exhausted })).bind fun _ => match l.pending with
   | none => M.pure (fV.normal, tm)
   | some c => match c with
    | .ret => M.pure (.ret, tm)
    | .exit j => M.pure (.exit j, tm)
    | _ => bF "pending").run s1 = .ok (e, tm') s' → tm' = tm ∧ ∃ jump w', (Instr.endLoop r.b).run E.P w = .ok jump w' ∧ jump = uK e ∧ fF E.P ρ m s w ρ m s' w' := by
  intro hst h4
  obtain ⟨_, s2, h5, h6⟩ := M.aF h4
  obtain ⟨_, hn2, hset⟩ := pF h5
  have hp : fF E.P ρ m s1 w ρ m s2 (World.upd w r.b (.loop { L with state := .exhausted })) :=
   .upd (hr.bY e1) hg1 hρ (.loop r { l with state := .exhausted } _ rfl q3 q4 q5 q6 q7) hn2 hset
  have hp' := hp.after e1
  have hrun : (Instr.endLoop r.b).run E.P w = .ok L.pending (World.upd w r.b (.loop { L with state := .exhausted })) := by
   have hb : (L.state == .busy) = false := by rw [q2]; cases hs : l.state <;> first | rfl | exact absurd hs hst
   simp only [Instr.endLoop, Sem.run_bind, l7 q1, Result.andThen_ok, hb, Bool.false_eq_true, if_false, i7 q1 (fun _ _ _ h => by cases h), Sem.run_pure]
  generalize hw : World.upd w r.b (.loop { L with state := .exhausted }) = wx at hrun hp'
  rw [q3] at hrun
  cases hpd : l.pending with
  | none =>
   rw [hpd] at h6 hrun
   obtain ⟨hq, rfl⟩ := aC h6
   injection hq with a1 a2
   subst a1; subst a2
   exact ⟨rfl, _, _, hrun, rfl, hp'⟩
  | some c =>
   rw [hpd] at h6 hrun
   simp only at h6
   split at h6
   ·obtain ⟨hq, rfl⟩ := aC h6
    injection hq with a1 a2
    subst a1; subst a2
    exact ⟨rfl, _, _, hrun, rfl, hp'⟩
   ·obtain ⟨hq, rfl⟩ := aC h6
    injection hq with a1 a2
    subst a1; subst a2
    exact ⟨rfl, _, _, hrun, rfl, hp'⟩
   ·exact (aD h6).elim
 split at h3
 ·exact (aD h3).elim
 ·rename_i hst
  exact main (fun hh => hst hh) h3
theorem zC {rec : Rec} (hrec : nY E.P rec) {fn : FuncId} {rnd : Option Nat} {f : Operand} {ps : Array Tmp} {assign body : Code} : sN E.P rnd (.rangeFunc f ps assign body) (step E rec fn rnd (.rangeFunc f ps assign body)) := by
 intro tm e tm' s s' h ho ρ m w a o n Q hr hf ht hn hQ
 have hfv := cI ht f
 simp only [step] at h
 split at h
 case h_2 => exact (aD h).elim
 rename_i g first cap hfe
 rw [hfe] at hfv
 split at h
 case h_2 => exact (aD h).elim
 rename_i gf
 split at h
 case h_2 => exact (aD h).elim
 rename_i hb
 have hfok := (E.funcs.find gf).ok
 rw [Nat.eq_of_beq_eq_true hb] at hfok
 obtain ⟨_, s1, h1, h2, ho1, n1, n1'⟩ := M.aH h ho
 obtain ⟨id, s2, h3, h4, ho2, n2, n2'⟩ := M.aH h2 ho
 obtain ⟨rv, s3, h5, h6, ho3, n3, n3'⟩ := M.aH h4 ho
 cases hvf : a.eval f with
 | func g' first' cap' =>
  rw [hvf] at hfv
  cases hfv with
  | fn _ _ _ _ _ _ hg hxl hyl hxa hya =>
  cases hg
  have enter : gL s s1 ∧ ∃ D w0, rQ m D ∧ (o ≠ none → D = []) ∧ Fr w w0 ∧ Rel E.P ρ (m.with D) s1.heap.get w0 ∧
    ∀ fn' : FuncId, ∃ L, (Instr.enterLoop fn' a.tmps ps assign body o).run E.P w = .ok (w0.heap.size, D.map mk) (w0.alloc (.loop L)) ∧ L.state = .ready ∧ L.pending = none ∧ L.tmps = a.tmps ∧ L.params = ps ∧ L.assign = assign ∧ L.body = body := by
   cases hn with
   | none =>
    obtain ⟨_, rfl⟩ := aC h1
    refine ⟨.refl _, [w.heap.size], w.alloc (.deferred (some [])), ⟨by simp, fun r hr' => ?_⟩, fun h => absurd rfl h, .alloc _ _, ?_, fun fn' => ?_⟩
    ·have : r = w.heap.size := by simpa using hr'
     subst this
     cases hm : m w.heap.size with
     | none => rfl
     | some q => have := fZ (hr.mem _ _ hm); omega
    ·have hm0 : m w.heap.size = none := by
      cases hm : m w.heap.size with
      | none => rfl
      | some q => have := fZ (hr.mem _ _ hm); omega
     refine ⟨fun i b hb => ?_, hr.inj, fun b ob hb => ?_⟩
     ·obtain ⟨rb, ob, q1, q2, q3, q4⟩ := hr.eT i b hb
      have hlt := fZ q2
      refine ⟨rb, ob, q1, ?_, q3.mono (.refl ρ) (Mem.GN (by simpa using hm0)), ?_⟩
      ·rw [lW, if_neg (by omega)]; exact q2
      ·unfold Mem.with; rw [if_neg (by simp; omega)]; exact q4
     ·unfold Mem.with at hb
      by_cases hd : b = w.heap.size
      ·subst hd
       rw [if_pos (by simp)] at hb
       injection hb with hb
       subst hb
       rw [lW, if_pos rfl]
      ·rw [if_neg (by simpa using hd)] at hb
       rw [lW, if_neg hd]
       exact hr.mem b ob hb
    ·refine ⟨{ state := .ready, pending := none, fn := fn', tmps := a.tmps, params := ps, assign, body, defers := w.heap.size }, ?_, rfl, rfl, rfl, rfl, rfl, rfl⟩
     ·simp only [Instr.enterLoop, Sem.run_bind, run_newObj_alloc, Result.andThen_ok, Sem.run_pure]
      rfl
   | some id0 r hid =>
    obtain ⟨b, s0, k1, k2⟩ := M.aF h1
    obtain ⟨hg, e1⟩ := eC k1
    obtain ⟨l, rfl, k3⟩ := pQ k2
    obtain ⟨_, rfl⟩ := aC k3
    obtain ⟨L, q1, _⟩ := hr.loop hg hid
    refine ⟨e1, [], w, .nil m, fun _ => rfl, .refl w, by rw [Mem.fG]; exact hr.bY e1, fun fn' => ⟨{ state := .ready, pending := none, fn := fn', tmps := a.tmps, params := ps, assign, body, defers := L.defers }, ?_, rfl, rfl, rfl, rfl, rfl, rfl⟩⟩
    ·simp only [Instr.enterLoop, Sem.run_bind, l7 q1, run_newObj_alloc, Result.andThen_ok, Sem.run_pure]
     rfl
  obtain ⟨e1, D, w0, hD, hD0, hfr, hr0, henter⟩ := enter
  have hmle : MLe m (m.with D) := Mem.GN hD.none
  refine wpIn_rangeFunc (fun fn' _ => ?_)
  obtain ⟨L, hrun, l1, l2, l3, l4, l5, l6⟩ := henter fn'
  have hf1 := hf.bY e1
  have hf12 : fK ρ s1 s2 := hf1.fst (by omega)
  obtain ⟨_, hp⟩ := mE h3 hr0 hf12 (.loop L) 0 0 (fun ρ' hle => .loop _ _ L l1 l2 (by rw [l3]; exact ht.mono hle hmle) (by rw [l4]) l5 l6)
  have hid : (ρ.put id ⟨w0.heap.size, 0, 0⟩) id = some ⟨w0.heap.size, 0, 0⟩ := by simp [Ren.put]
  have hargs : RL (ρ.put id ⟨w0.heap.size, 0, 0⟩) (m.with D) (first ++ [a9.fn (.yield id) [] []] ++ cap) (first' ++ #[.func (.yield w0.heap.size) #[] #[]] ++ cap') := by
   have hy : RL (ρ.put id ⟨w0.heap.size, 0, 0⟩) (m.with D) [a9.fn (.yield id) [] []] #[.func (.yield w0.heap.size) #[] #[]] := by
    refine ⟨rfl, fun i v x hv hx => ?_⟩
    cases i with
    | zero =>
     simp at hv hx
     subst hv; subst hx
     exact .fn _ _ _ _ _ _ (.yield id ⟨w0.heap.size, 0, 0⟩ hid) rfl rfl (fun i v u hv => by simp at hv) (fun i v u hv => by simp at hv)
    | succ i => simp at hv
   exact ((RL.mono hp.ren hmle ⟨hxl, hxa⟩).append hy).append (RL.mono hp.ren hmle ⟨hyl, hya⟩)
  have hf2 : fK (ρ.put id ⟨w0.heap.size, 0, 0⟩) s2 s' := hf1.snd hp
  have hcall := AK hrec gf _ s2 rv s3 h5 ho3 _ _ _ _ hp.rel (hf2.fst n3') hargs
  refine ⟨w0.heap.size, D.map mk, w0.alloc (.loop L), { target := .fn (.func gf) cap', args := first' ++ #[.func (.yield w0.heap.size) #[] #[]] }, w0.alloc (.loop L), gf, first' ++ #[.func (.yield w0.heap.size) #[] #[]] ++ cap', w0.alloc (.loop L), hrun, ?_, fun _ _ => trivial, ?_, Fw.depth _, ?_⟩
  ·have : (#[Operand.const (.func (.yield w0.heap.size) #[] #[])] : Array Operand).map a.eval = #[.func (.yield w0.heap.size) #[] #[]] := by simp [Act.eval]
   simp only [resolve, rangeCall, hvf, Deferred.ofValue, this, Sem.run_pure]
  ·simp only [invoke]; exact hfok.call _ _
  ·rcases hcall with ⟨_, hc⟩ | ⟨x, w', he, _⟩
   ·refine Fw.SU (hc.mono (fun e' w' hh => ?_))
    obtain ⟨x, rfl, ρ', hp3, _⟩ := hh
    have hp03 := hp.trans hp3
    obtain ⟨rfl, jump, w4, k1, k2, k3⟩ := I9 h6 hp3.rel (hp3.ren _ _ hid)
    have hfin : ∀ e', RX e e' → Q e' { a with defers := D.map mk ++ a.defers } w4 := fun e' hx => by
     have hpa := (hp03.trans k3).after e1
     refine hQ e' { a with defers := D.map mk ++ a.defers } w4 ρ' D ⟨⟨hpa.ren, hpa.new, fun b ob hb => ?_, hpa.rel, hfr.trans hpa.fr, hpa.next⟩, ht.mono hpa.ren hmle, hx, rfl, hD, hD0⟩
     have : b ∉ D := fun hd => by rw [hD.none b hd] at hb; cases hb
     unfold Mem.with; rw [if_neg this]; exact hb
    refine ⟨jump, w4, k1, ?_⟩
    subst k2
    cases e with
    | normal => exact hfin _ .normal
    | ret => exact wpIn_ret (hfin _ .ret)
    | exit j => exact wpIn_exit (hfin _ (.exit j))
   ·rw [hfok.call] at he
    injection he with he
    cases he
 | _ => rw [hvf] at hfv; cases hfv
end
end Go.Am
set_option linter.unusedSimpArgs false
set_option linter.unusedVariables false
namespace Go.Am
open Go
section
variable {α : Type} (eQ : Nat → α) (T : Nat → Nat → Prop) (V : Nat → Nat → α)
open Classical in
noncomputable def iD (S : Nat → Prop) : Nat → Nat → α
 | 0, x => eQ x
 | k + 1, x => if S k ∧ T k x then V k x else iD S k x
variable {eQ T V}
theorem oF {S : Nat → Prop} {n i : Nat} (hin : i ≤ n) {x : Nat} (h1 : ∀ j, j < i → T j x → S j) (h2 : ∀ k, i ≤ k → k < n → S k → ¬ T k x) : iD eQ T V S n x = iD eQ T V (fun _ => True) i x := by
 have tail : ∀ k, i ≤ k → k ≤ n → iD eQ T V S k x = iD eQ T V S i x := by
  intro k
  induction k with
  | zero =>
   intro h _; have : i = 0 := by omega
   subst this; rfl
  | succ k ih =>
   intro h hk
   by_cases e : i = k + 1
   ·subst e; rfl
   ·rw [← ih (by omega) (by omega)]
    simp only [iD]
    rw [if_neg (fun hh => h2 k (by omega) (by omega) hh.1 hh.2)]
 rw [tail n hin (Nat.le_refl _)]
 clear tail h2 hin
 induction i with
 | zero => rfl
 | succ i ih =>
  simp only [iD]
  by_cases ht : T i x
  ·rw [if_pos ⟨h1 i (by omega) ht, ht⟩, if_pos ⟨trivial, ht⟩]
  ·rw [if_neg (fun h => ht h.2), if_neg (fun h => ht h.2)]
   exact ih (fun j hj => h1 j (by omega))
open Classical in
theorem CR {S : Nat → Prop} {i : Nat} (hi : ¬ S i) {x : Nat} : ∀ {n : Nat}, i < n → (T i x → ∀ k, i < k → k < n → S k → ¬ T k x) →
  iD eQ T V (fun k => S k ∨ k = i) n x = if T i x then V i x else iD eQ T V S n x := by
 have low : ∀ k, k ≤ i → iD eQ T V (fun k => S k ∨ k = i) k x = iD eQ T V S k x := by
  intro k
  induction k with
  | zero => intro _; rfl
  | succ k ih =>
   intro hk
   have : (S k ∨ k = i) ↔ S k := ⟨fun h => h.resolve_right (by omega), .inl⟩
   simp only [iD, this, ih (by omega)]
 intro n
 induction n with
 | zero => intro h; omega
 | succ n ih =>
  intro hn h
  by_cases e : n = i
  ·subst e
   simp only [iD, or_true, true_and, low n (Nat.le_refl _)]
   by_cases ht : T n x
   ·rw [if_pos ht, if_pos ht]
   ·rw [if_neg ht, if_neg ht, if_neg (fun h => hi h.1)]
  ·have hlt : i < n := by omega
   have ih' := ih hlt (fun ht k hk hkn => h ht k hk (by omega))
   simp only [iD]
   have : (S n ∨ n = i) ↔ S n := ⟨fun h => h.resolve_right e, .inl⟩
   simp only [this, ih']
   by_cases hs : S n ∧ T n x
   ·have hnt : ¬ T i x := fun ht => h ht n hlt (by omega) hs.1 hs.2
    rw [if_pos hs, if_neg hnt, if_pos hs]
   ·rw [if_neg hs, if_neg hs]
end
theorem j4 {x y : List Nat} (h : jJ x y = false) {a : Nat} (ha : a ∈ x) (hb : a ∈ y) : False := by
 have : jJ x y = true := List.any_eq_true.2 ⟨a, ha, List.any_eq_true.2 ⟨a, hb, Nat.beq_refl a⟩⟩
 rw [this] at h; cases h
theorem oI {x : List Nat} {f : gN} (h : lL x f = false) {a : Nat} (ha : a ∈ x) (h1 : f.lo ≤ a) (h2 : a < f.hi) : False := by
 unfold lL at h
 split at h
 ·rename_i e
  have := Nat.eq_of_beq_eq_true e
  omega
 ·have : (x.any (within f.lo f.hi)) = true := List.any_eq_true.2 ⟨a, ha, by
   have h2' : a.blt f.hi = true := Nat.ble_eq_true_of_le h2
   simp [within, Nat.ble_eq_true_of_le h1, h2']⟩
  rw [this] at h; cases h
theorem vI {a b : gN} (h : gC a b = false) : jJ a.w b.r = false ∧ jJ a.w b.w = false ∧ jJ a.r b.w = false ∧ lL a.r b = false ∧ lL a.w b = false ∧ lL b.r a = false ∧ lL b.w a = false := by
 simpa [gC] using h
theorem QD {lo hi x : Nat} (h : old lo hi x = false) : lo ≤ x ∧ x < hi := by
 simp only [old, Bool.or_eq_false_iff] at h
 refine ⟨?_, ?_⟩
 ·rcases Nat.lt_or_ge x lo with hl | hl
  ·have : x.blt lo = true := Nat.ble_eq_true_of_le hl
   rw [this] at h; cases h.1
  ·exact hl
 ·rcases Nat.lt_or_ge x hi with hl | hl
  ·exact hl
  ·have : hi.ble x = true := Nat.ble_eq_true_of_le hl
   rw [this] at h; cases h.2
theorem kW {l : List Nat} {lo hi x : Nat} (h : x ∈ l) : x ∈ l.filter (old lo hi) ∨ (lo ≤ x ∧ x < hi) := by
 cases e : old lo hi x with
 | true => exact .inl (List.mem_filter.2 ⟨h, e⟩)
 | false => exact .inr (QD e)
theorem ai6 {r1 w1 r2 w2 : List Nat} {j1 j2 lo1 hi1 lo2 hi2 : Nat} (h : gC ⟨j1, r1.filter (old lo1 hi1), w1.filter (old lo1 hi1), lo1, hi1⟩ ⟨j2, r2.filter (old lo2 hi2), w2.filter (old lo2 hi2), lo2, hi2⟩ = false) (hlo : hi1 ≤ lo2) {x : Nat} :
  ((x ∈ r1 ∨ x ∈ w1 ∨ (lo1 ≤ x ∧ x < hi1)) → (x ∈ w2 ∨ (lo2 ≤ x ∧ x < hi2)) → False) ∧ ((x ∈ w1 ∨ (lo1 ≤ x ∧ x < hi1)) → (x ∈ r2 ∨ x ∈ w2 ∨ (lo2 ≤ x ∧ x < hi2)) → False) := by
 obtain ⟨c1, c2, c3, c4, c5, c6, c7⟩ := vI h
 simp only at c1 c2 c3 c4 c5 c6 c7
 have n12 : (lo1 ≤ x ∧ x < hi1) → (lo2 ≤ x ∧ x < hi2) → False := fun a b => by omega
 have w1n2 : x ∈ w1 → (lo2 ≤ x ∧ x < hi2) → False := fun a b => by
  rcases kW (lo := lo1) (hi := hi1) a with a | a
  ·exact oI c5 a b.1 b.2
  ·exact n12 a b
 have r1n2 : x ∈ r1 → (lo2 ≤ x ∧ x < hi2) → False := fun a b => by
  rcases kW (lo := lo1) (hi := hi1) a with a | a
  ·exact oI c4 a b.1 b.2
  ·exact n12 a b
 have n1w2 : (lo1 ≤ x ∧ x < hi1) → x ∈ w2 → False := fun a b => by
  rcases kW (lo := lo2) (hi := hi2) b with b | b
  ·exact oI c7 b a.1 a.2
  ·exact n12 a b
 have n1r2 : (lo1 ≤ x ∧ x < hi1) → x ∈ r2 → False := fun a b => by
  rcases kW (lo := lo2) (hi := hi2) b with b | b
  ·exact oI c6 b a.1 a.2
  ·exact n12 a b
 have w1w2 : x ∈ w1 → x ∈ w2 → False := fun a b => by
  rcases kW (lo := lo1) (hi := hi1) a with a' | a'
  ·rcases kW (lo := lo2) (hi := hi2) b with b' | b'
   ·exact j4 c2 a' b'
   ·exact w1n2 a b'
  ·exact n1w2 a' b
 have r1w2 : x ∈ r1 → x ∈ w2 → False := fun a b => by
  rcases kW (lo := lo1) (hi := hi1) a with a' | a'
  ·rcases kW (lo := lo2) (hi := hi2) b with b' | b'
   ·exact j4 c3 a' b'
   ·exact r1n2 a b'
  ·exact n1w2 a' b
 have w1r2 : x ∈ w1 → x ∈ r2 → False := fun a b => by
  rcases kW (lo := lo1) (hi := hi1) a with a' | a'
  ·rcases kW (lo := lo2) (hi := hi2) b with b' | b'
   ·exact j4 c1 a' b'
   ·exact w1n2 a b'
  ·exact n1r2 a' b
 refine ⟨fun a b => ?_, fun a b => ?_⟩
 ·rcases a with a | a | a <;> rcases b with b | b
  ·exact r1w2 a b
  ·exact r1n2 a b
  ·exact w1w2 a b
  ·exact w1n2 a b
  ·exact n1w2 a b
  ·exact n12 a b
 ·rcases a with a | a <;> rcases b with b | b | b
  ·exact w1r2 a b
  ·exact w1w2 a b
  ·exact w1n2 a b
  ·exact n1r2 a b
  ·exact n1w2 a b
  ·exact n12 a b
def Ok2 (bs : List Nat) (b a : gN) : Prop := gC a b = false ∨ (bs.getD b.j 0).testBit a.j = true
theorem rO {bs : List Nat} : ∀ {fs : List gN}, dW bs fs = true → fs.Pairwise (Ok2 bs)
 | [], _ => .nil
 | b :: l, h => by
  simp only [dW, Bool.and_eq_true, List.all_eq_true, Bool.or_eq_true] at h
  refine List.pairwise_cons.2 ⟨fun a ha => ?_, rO h.2⟩
  rcases h.1 a ha with h | h
  ·exact .inl (by simpa using h)
  ·exact .inr h
theorem GX {bs : List Nat} {F : List gN} (h : dW bs F.reverse = true) {i k : Nat} {a b : gN} (hik : i < k) (ha : F[i]? = some a) (hb : F[k]? = some b) : Ok2 bs b a := by
 have hp := rO h
 rw [List.pairwise_reverse] at hp
 obtain ⟨hk, hbk⟩ := List.getElem?_eq_some_iff.1 hb
 obtain ⟨hi, hai⟩ := List.getElem?_eq_some_iff.1 ha
 have := List.pairwise_iff_getElem.1 hp i k hi hk hik
 rw [hai, hbk] at this
 exact this
theorem qE {acc : List Nat} {i : Nat} : ∀ {es : List Edge}, (oT acc es).testBit i = true → ∃ e ∈ es, Region.binds .any e = true ∧ (i = e.on ∨ (acc.getD e.on 0).testBit i = true)
 | [], h => by simp [oT] at h
 | e :: l, h => by
  unfold oT at h
  split at h
  ·rename_i hb
   rw [Nat.testBit_or, Nat.testBit_or, Bool.or_eq_true, Bool.or_eq_true] at h
   rcases h with h | h | h
   ·obtain ⟨e', h1, h2, h3⟩ := qE h
    exact ⟨e', List.mem_cons_of_mem _ h1, h2, h3⟩
   ·rw [Nat.testBit_two_pow] at h
    exact ⟨e, List.mem_cons_self, hb, .inl (of_decide_eq_true h).symm⟩
   ·exact ⟨e, List.mem_cons_self, hb, .inr h⟩
  ·obtain ⟨e', h1, h2, h3⟩ := qE h
   exact ⟨e', List.mem_cons_of_mem _ h1, h2, h3⟩
theorem BV : ∀ (l : List Oper) (acc : List Nat), (∃ tl, eF acc l = acc ++ tl) ∧ ∀ k o, l[k]? = some o → (eF acc l).getD (acc.length + k) 0 = oT ((eF acc l).take (acc.length + k)) o.after.toList := by
 intro l
 induction l with
 | nil => intro acc; exact ⟨⟨[], by simp [eF]⟩, fun k o h => by simp at h⟩
 | cons q l ih =>
  intro acc
  obtain ⟨⟨tl, h1⟩, h2⟩ := ih (acc ++ [oT acc q.after.toList])
  refine ⟨⟨oT acc q.after.toList :: tl, by simp only [eF, h1]; simp⟩, fun k o hk => ?_⟩
  cases k with
  | zero =>
   simp at hk
   subst hk
   simp only [eF, h1, Nat.add_zero, List.append_assoc]
   simp [List.getD_eq_getElem?_getD]
  | succ k =>
   have := h2 k o (by simpa using hk)
   simp only [List.length_append, List.length_singleton] at this
   simp only [eF]
   have e : acc.length + 1 + k = acc.length + (k + 1) := by omega
   rw [e] at this
   exact this
theorem sL : ∀ (l : List Oper) (j : Nat), tW j l = true → ∀ k o, l[k]? = some o → ∀ e ∈ o.after, Region.binds .any e = true → e.on < j + k := by
 intro l
 induction l with
 | nil => intro j _ k o h; simp at h
 | cons q l ih =>
  intro j h k o hk e he hbe
  simp only [tW, Bool.and_eq_true, List.all_eq_true] at h
  cases k with
  | zero =>
   simp at hk
   subst hk
   have := h.1 e (by simpa using he)
   rw [hbe] at this
   exact Nat.le_of_ble_eq_true this
  | succ k =>
   have := ih (j + 1) h.2 k o (by simpa using hk) e he hbe
   omega
theorem vH {l : List Oper} {S : Nat → Prop} (hb : tW 0 l = true) (hc : ∀ k o, S k → l[k]? = some o → ∀ e ∈ o.after, Region.binds .any e = true → S e.on) :
  ∀ (k : Nat) (o : Oper), l[k]? = some o → (∀ e ∈ o.after, Region.binds .any e = true → S e.on) → ∀ i, ((eF [] l).getD k 0).testBit i = true → S i := by
 intro k
 induction k using Nat.strongRecOn with
 | _ k ih =>
  intro o ho hs i hi
  have h1 := (BV l []).2 k o ho
  simp only [List.length_nil, Nat.zero_add] at h1
  rw [h1] at hi
  obtain ⟨e, he, hbe, h⟩ := qE hi
  have he' : e ∈ o.after := by simpa using he
  have hse := hs e he' hbe
  have hlt := sL l 0 hb k o ho e he' hbe
  simp only [Nat.zero_add] at hlt
  rcases h with rfl | h
  ·exact hse
  ·have hlk := (List.getElem?_eq_some_iff.1 ho).1
   obtain ⟨oe, hoe⟩ : ∃ oe, l[e.on]? = some oe := ⟨_, List.getElem?_eq_getElem (by omega)⟩
   refine ih e.on hlt oe hoe (hc e.on oe hse hoe) i ?_
   rw [List.getD_eq_getElem?_getD] at h ⊢
   rw [List.getElem?_take_of_lt hlt] at h
   exact h
variable {E : Env}
theorem xH {t : Nat} : ∀ {l : List Operand}, Operand.tmp t ∈ l → t ∈ uE l
 | x :: l, h => by
  rcases List.mem_cons.1 h with h | h
  ·subst h; simp [uE]
  ·have := xH h
   unfold uE
   split
   ·exact List.mem_cons_of_mem _ this
   ·exact this
theorem IC {tm tm' : List a9} {x : Operand} (h : ∀ t, x = .tmp t → nth tm t undef = nth tm' t undef) : opd tm x = opd tm' x := by
 cases x with
 | tmp t => exact h t rfl
 | _ => rfl
theorem oE {tm tm' : List a9} : ∀ {l : List Operand}, (∀ x ∈ l, opd tm x = opd tm' x) → dY tm l = dY tm' l
 | [], _ => rfl
 | x :: l, h => by
  simp only [dY, h x List.mem_cons_self, oE (l := l) (fun y hy => h y (List.mem_cons_of_mem _ hy))]
theorem rZ {tm tm' : List a9} : ∀ {l : List (Nat × Operand)}, (∀ x ∈ l.map (·.2), opd tm x = opd tm' x) → eV tm l = eV tm' l
 | [], _ => rfl
 | x :: l, h => by
  simp only [eV, h x.2 (by simp), rZ (l := l) (fun y hy => h y (by simp at hy ⊢; exact .inr hy))]
theorem BI {rec : Rec} {tm tm' : List a9} {op : Op} (h : ∀ x ∈ op.operands, opd tm x = opd tm' x) : execOp E rec tm op = execOp E rec tm' op := by
 cases op <;> simp only [Op.operands] at h <;> simp only [execOp]
 case build t ps => rw [rZ (fun x hx => h x (by simpa using hx))]
 case buildSlice t n ps => rw [rZ (fun x hx => h x (by simpa using hx))]
 case makeFunc fn first captured =>
  rw [oE (l := first.toList) (fun x hx => h x (by simp at hx; simp [hx])), oE (l := captured.toList) (fun x hx => h x (by simp at hx; simp [hx]))]
 case slice t x lo hi mx =>
  have hx := h x (by simp)
  have hlo : opt tm lo = opt tm' lo := by cases lo with | none => rfl | some y => simp only [opt]; rw [h y (by simp)]
  have hhi : opt tm hi = opt tm' hi := by cases hi with | none => rfl | some y => simp only [opt]; rw [h y (by simp)]
  have hmx : opt tm mx = opt tm' mx := by cases mx with | none => rfl | some y => simp only [opt]; rw [h y (by simp)]
  rw [hx, hlo, hhi, hmx]
 case makeMap t r =>
  have hr : opt tm r = opt tm' r := by cases r with | none => rfl | some y => simp only [opt]; rw [h y (by simp)]
  rw [hr]
 case call c =>
  obtain ⟨callee, args, tys⟩ := c
  simp only [Call.operands] at h
  simp only [cJ]
  have ha : dY tm args.toList = dY tm' args.toList := oE (fun x hx => h x (by simp at hx; simp [hx]))
  rw [ha]
  cases callee with
  | value f => simp only; rw [h f (by simp)]
  | _ => rfl
 all_goals first | rfl | (simp_all; done)
theorem ID {rec : Rec} {ops : List Oper} {o : Oper} {tm tm' : List a9} (h : ∀ t ∈ tF ops o, nth tm t undef = nth tm' t undef) : opV E rec ops o tm = opV E rec ops o tm' := by
 have h1 : execOp E rec tm o.op = execOp E rec tm' o.op := BI (fun x hx => IC (fun t ht => by
  subst ht
  exact h t (List.mem_append_left _ (xH (by simpa using hx)))))
 have h2 : wanted ops tm o.guard = wanted ops tm' o.guard := by
  unfold wanted
  cases hg : o.guard with
  | none => rfl
  | some p =>
   simp only
   cases hd : (ops[p.1]?).bind (·.dst) with
   | none => rfl
   | some d => simp only; rw [h d (by simp [tF, hg, hd])]
 unfold opV
 rw [h1, h2]
end Go.Am
set_option linter.unusedSimpArgs false
set_option linter.unusedVariables false
namespace Go.Am
open Go
variable {E : Env}
structure Ev where
 s : St
 v : a9
 s' : St
 r : List Nat
 w : List Nat
 o : List Bool
structure Tra (E : Env) (rec : Rec) (ops : List Oper) (j : Nat) (l : List Oper) (tm : List a9) (s : St) (tm' : List a9) (s' : St) (F : List gN) (ev : Nat → Ev) (hp : Nat → Tr) (nx : Nat → Nat) (tv : Nat → List a9) : Prop where
 h0 : hp 0 = s.heap
 hN : hp l.length = s'.heap
 n0 : nx 0 = s.next
 nN : nx l.length = s'.next
 t0 : tv 0 = tm
 tN : tv l.length = tm'
 kS : F.length = l.length
 heap : ∀ k, k < l.length → (ev k).s.heap = hp k ∧ (ev k).s'.heap = hp (k + 1)
 next : ∀ k, k < l.length → (ev k).s.next = nx k ∧ (ev k).s'.next = nx (k + 1)
 tmps : ∀ k o, l[k]? = some o → tv (k + 1) = bX (tv k) o.dst (ev k).v
 did : ∀ k o, l[k]? = some o → (opV E rec ops o (tv k)).run (ev k).s = .ok (ev k).v (ev k).s' ∧ Did (opV E rec ops o (tv k)).run (ev k).s (ev k).v (ev k).s' (ev k).r (ev k).w (ev k).o
 ok : ∀ k, k < l.length → (ev k).o.all id = true
 X1 : ∀ k, k < l.length → F[k]? = some ⟨j + k, (ev k).r.filter (old (nx k) (nx (k + 1))), (ev k).w.filter (old (nx k) (nx (k + 1))), nx k, nx (k + 1)⟩
def shift {α : Type} (a : α) (f : Nat → α) : Nat → α
 | 0 => a
 | k + 1 => f k
theorem BJ {rec : Rec} {ops : List Oper} : ∀ (l : List Oper) (j : Nat) (tm : List a9) (fs : List gN) (s : St) (tm' : List a9) (fs' : List gN) (s' : St), (jK E rec ops j l tm fs).run s = .ok (tm', fs') s' → cF s' →
  ∃ F ev hp nx tv, fs' = F.reverse ++ fs ∧ Tra E rec ops j l tm s tm' s' F ev hp nx tv := by
 intro l
 induction l with
 | nil =>
  intro j tm fs s tm' fs' s' h ho
  obtain ⟨he, rfl⟩ := aC h
  injection he with q1 q2
  subst q1; subst q2
  exact ⟨[], fun _ => ⟨s', undef, s', [], [], []⟩, fun _ => s'.heap, fun _ => s'.next, fun _ => tm', by simp, ⟨rfl, rfl, rfl, rfl, rfl, rfl, rfl, fun k hk => by simp at hk, fun k hk => by simp at hk, fun k o hk => by simp at hk, fun k o hk => by simp at hk,
   fun k hk => by simp at hk, fun k hk => by simp at hk⟩⟩
 | cons o l ih =>
  intro j tm fs s tm' fs' s' h ho
  obtain ⟨⟨v, f⟩, s1, h1, h2, ho1, _, _⟩ := M.aH h ho
  obtain ⟨F, ev, hp, nx, tv, e1, t⟩ := ih (j + 1) _ _ s1 tm' fs' s' h2 ho
  have h1 : mL j (opV E rec ops o tm) s = .ok (v, f) s1 := h1
  unfold mL at h1
  cases hm : (opV E rec ops o tm).run { s with rds := [], wrs := [] } with
  | bF w => rw [hm] at h1; cases h1
  | ask b => rw [hm] at h1; cases h1
  | ok a1 sa =>
   rw [hm] at h1
   injection h1 with q1 q2
   injection q1 with q3 q4
   subst q3
   obtain ⟨r, w, ob, d⟩ := (opV E rec ops o tm).loc _ _ _ hm
   have er : sa.rds = r := by simpa using d.rds
   have ew : sa.wrs = w := by simpa using d.wrs
   have eo : sa.obs = ob ++ s.obs := d.obs
   subst q2
   refine ⟨f :: F, shift ⟨{ s with rds := [], wrs := [] }, a1, sa, r, w, ob⟩ ev, shift s.heap hp, shift s.next nx, shift tm tv, by rw [e1]; simp, ⟨rfl, ?_, rfl, ?_, rfl, ?_, by simp [t.kS], ?_, ?_, ?_, ?_, ?_, ?_⟩⟩
   ·simpa [shift] using t.hN
   ·simpa [shift] using t.nN
   ·simpa [shift] using t.tN
   ·intro k hk
    cases k with
    | zero => exact ⟨rfl, by simpa [shift] using t.h0.symm⟩
    | succ k => simpa [shift] using t.heap k (by simpa using hk)
   ·intro k hk
    cases k with
    | zero => exact ⟨rfl, by simpa [shift] using t.n0.symm⟩
    | succ k => simpa [shift] using t.next k (by simpa using hk)
   ·intro k o' hk
    cases k with
    | zero =>
     simp at hk; subst hk
     simpa [shift] using t.t0
    | succ k => simpa [shift] using t.tmps k o' (by simpa using hk)
   ·intro k o' hk
    cases k with
    | zero =>
     simp at hk; subst hk
     exact ⟨hm, d⟩
    | succ k => simpa [shift] using t.did k o' (by simpa using hk)
   ·intro k hk
    cases k with
    | zero =>
     simp only [shift]
     unfold cF at ho1
     simp only [eo, List.all_append, Bool.and_eq_true] at ho1
     exact ho1.1
    | succ k => simpa [shift] using t.ok k (by simpa using hk)
   ·intro k hk
    cases k with
    | zero =>
     have hn0 : nx 0 = sa.next := t.n0
     simp only [shift, List.getElem?_cons_zero, hn0, Nat.add_zero]
     rw [← q4, er, ew]
    | succ k =>
     have := t.X1 k (by simpa using hk)
     simp only [shift, List.getElem?_cons_succ]
     have e : j + 1 + k = j + (k + 1) := by omega
     rw [e] at this
     exact this
theorem CA {ops : List Oper} : ∀ (l : List Oper) (j : Nat) (fs : List gN), ∃ F : List gN, kZ ops j l fs = F.reverse ++ fs ∧ ∀ (k : Nat) (o : Oper), l[k]? = some o → F[k]? = some ⟨j + k, tF ops o, o.dst.toList, 0, 0⟩ := by
 intro l
 induction l with
 | nil => intro j fs; exact ⟨[], by simp [kZ], fun k o h => by simp at h⟩
 | cons q l ih =>
  intro j fs
  obtain ⟨F, h1, h2⟩ := ih (j + 1) (⟨j, tF ops q, q.dst.toList, 0, 0⟩ :: fs)
  refine ⟨⟨j, tF ops q, q.dst.toList, 0, 0⟩ :: F, by simp only [kZ, h1]; simp, fun k o hk => ?_⟩
  cases k with
  | zero => simp at hk; subst hk; simp
  | succ k =>
   have := h2 k o (by simpa using hk)
   have e : j + 1 + k = j + (k + 1) := by omega
   rw [e] at this
   simpa using this
theorem Tra.mono {rec : Rec} {ops : List Oper} {j : Nat} {l : List Oper} {tm tm' : List a9} {s s' : St} {F : List gN} {ev : Nat → Ev} {hp : Nat → Tr} {nx : Nat → Nat} {tv : Nat → List a9}
  (t : Tra E rec ops j l tm s tm' s' F ev hp nx tv) : ∀ i k, i ≤ k → k ≤ l.length → nx i ≤ nx k := by
 intro i k
 induction k with
 | zero =>
  intro h _; have : i = 0 := by omega
  subst this; exact Nat.le_refl _
 | succ k ih =>
  intro h hk
  by_cases e : i = k + 1
  ·subst e; exact Nat.le_refl _
  ·have h1 := ih (by omega) (by omega)
   obtain ⟨o, ho⟩ : ∃ o, l[k]? = some o := ⟨_, List.getElem?_eq_getElem (by omega)⟩
   have h2 := (t.did k o ho).2.next
   rw [(t.next k (by omega)).1, (t.next k (by omega)).2] at h2
   omega
theorem pS (tm : List a9) (d : Option Tmp) (v : a9) : (bX tm d v).length = tm.length := by
 cases d with
 | none => rfl
 | some d => exact kO tm d v
theorem mK (tm : List a9) (d : Option Tmp) (v : a9) (x : Nat) : (bX tm d v)[x]? = if d = some x then (if x < tm.length then some v else none) else tm[x]? := by
 cases d with
 | none => simp [bX]
 | some d =>
  simp only [bX, wG, Option.some.injEq]
  by_cases e : x = d
  ·subst e
   by_cases hl : x < tm.length
   ·simp [hl]
   ·have hl' : tm.length ≤ x := Nat.not_lt.1 hl
    simp [hl, List.getElem?_eq_none hl']
  ·have e' : ¬ d = x := fun h => e h.symm
   simp [e, e']
theorem Tra.len {rec : Rec} {ops : List Oper} {j : Nat} {l : List Oper} {tm tm' : List a9} {s s' : St} {F : List gN} {ev : Nat → Ev} {hp : Nat → Tr} {nx : Nat → Nat} {tv : Nat → List a9}
  (t : Tra E rec ops j l tm s tm' s' F ev hp nx tv) : ∀ k, k ≤ l.length → (tv k).length = tm.length := by
 intro k
 induction k with
 | zero => intro _; rw [t.t0]
 | succ k ih =>
  intro hk
  obtain ⟨o, ho⟩ : ∃ o, l[k]? = some o := ⟨_, List.getElem?_eq_getElem (by omega)⟩
  rw [t.tmps k o ho, pS, ih (by omega)]
def TH (ev : Nat → Ev) (nx : Nat → Nat) (k x : Nat) : Prop := x ∈ (ev k).w ∨ (nx k ≤ x ∧ x < nx (k + 1))
def TT (l : List Oper) (k x : Nat) : Prop := ∃ o, l[k]? = some o ∧ o.dst = some x
theorem Tra.SI {rec : Rec} {ops : List Oper} {j : Nat} {l : List Oper} {tm tm' : List a9} {s s' : St} {F : List gN} {ev : Nat → Ev} {hp : Nat → Tr} {nx : Nat → Nat} {tv : Nat → List a9}
  (t : Tra E rec ops j l tm s tm' s' F ev hp nx tv) (x : Nat) : ∀ k, k ≤ l.length → iD s.heap.get (TH ev nx) (fun k x => (hp (k + 1)).get x) (fun _ => True) k x = (hp k).get x := by
 intro k
 induction k with
 | zero => intro _; simp only [iD, t.h0]
 | succ k ih =>
  intro hk
  simp only [iD]
  split
  ·rfl
  ·rename_i h
   have hn : ¬ TH ev nx k x := fun hh => h ⟨trivial, hh⟩
   obtain ⟨o, ho⟩ : ∃ o, l[k]? = some o := ⟨_, List.getElem?_eq_getElem (by omega)⟩
   have hr := (t.did k o ho).2.bH x (fun hh => hn (.inl hh)) (fun hh => hn (.inr (by
    have := hh.1; have := hh.2
    rw [(t.next k (by omega)).1] at *
    rw [(t.next k (by omega)).2] at *
    exact ⟨by assumption, by assumption⟩)))
   rw [(t.heap k (by omega)).1, (t.heap k (by omega)).2] at hr
   rw [ih (by omega), hr]
theorem Tra.K6 {rec : Rec} {ops : List Oper} {j : Nat} {l : List Oper} {tm tm' : List a9} {s s' : St} {F : List gN} {ev : Nat → Ev} {hp : Nat → Tr} {nx : Nat → Nat} {tv : Nat → List a9}
  (t : Tra E rec ops j l tm s tm' s' F ev hp nx tv) (x : Nat) : ∀ k, k ≤ l.length → iD (fun x => tm[x]?) (TT l) (fun k x => (tv (k + 1))[x]?) (fun _ => True) k x = (tv k)[x]? := by
 intro k
 induction k with
 | zero => intro _; simp only [iD, t.t0]
 | succ k ih =>
  intro hk
  simp only [iD]
  split
  ·rfl
  ·rename_i h
   obtain ⟨o, ho⟩ : ∃ o, l[k]? = some o := ⟨_, List.getElem?_eq_getElem (by omega)⟩
   have hd : ¬ o.dst = some x := fun hh => h ⟨trivial, o, ho, hh⟩
   rw [ih (by omega), t.tmps k o ho, mK, if_neg hd]
theorem uR : ∀ (l : List Bool) (i : Nat), l[i]? = some false → ((l.set i true).filter (!·)).length + 1 = (l.filter (!·)).length
 | [], i, h => by simp at h
 | b :: l, 0, h => by simp at h; subst h; simp
 | b :: l, i + 1, h => by
  have := uR l i (by simpa using h)
  cases b <;> simp at this ⊢ <;> omega
theorem sH : ∀ (l : List Bool), (l.filter (!·)).length = 0 → ∀ (i : Nat) (b : Bool), l[i]? = some b → b = true
 | [], _, i, b, h => by simp at h
 | c :: l, hz, i, b, h => by
  cases c with
  | false => simp at hz
  | true =>
   cases i with
   | zero => simp at h; exact h.symm ▸ rfl
   | succ i => exact sH l (by simpa using hz) i b (by simpa using h)
section
variable {ρ₀ : Ren} {m : Mem} {s s' : St} {w₀ : World}
structure Inv (E : Env) (ρ₀ : Ren) (m : Mem) (s : St) (w₀ : World) (a₀ : Act) (l : List Oper) (tm : List a9) (ev : Nat → Ev) (hp : Nat → Tr) (nx : Nat → Nat) (tv : Nat → List a9) (S : Nat → Prop) (a : Act) (w : World) (ρ : Ren) (h : Tr) (ts : List a9) : Prop where
 heap : ∀ x, h.get x = iD s.heap.get (TH ev nx) (fun k x => (hp (k + 1)).get x) S l.length x
 len : ts.length = tm.length
 tmps : ∀ x : Nat, ts[x]? = iD (fun x => tm[x]?) (TT l) (fun k x => (tv (k + 1))[x]?) S l.length x
 BP : ∀ k o, S k → l[k]? = some o → ∀ e ∈ o.after, Region.binds .any e = true → S e.on
 rel : Rel E.P ρ m h.get w
 rl : RL ρ m ts a.tmps
 ren : iG ρ₀ ρ
 new : ∀ id, ρ id ≠ none → ρ₀ id ≠ none ∨ ∃ k, S k ∧ k < l.length ∧ nx k ≤ id ∧ id < nx (k + 1)
 fr : Fr w₀ w
 defers : a.defers = a₀.defers
theorem Inv.step {rec : Rec} (hrec : nY E.P rec) {ops : Array Oper} {tm tm' : List a9} {F : List gN} {ev : Nat → Ev} {hp : Nat → Tr} {nx : Nat → Nat} {tv : Nat → List a9} {a₀ a : Act} {w : World} {ρ : Ren} {h : Tr} {ts : List a9} {S : Nat → Prop}
  (t : Tra E rec ops.toList 0 ops.toList tm s tm' s' F ev hp nx tv) (hback : tW 0 ops.toList = true) (hfine : dW (eF [] ops.toList) F.reverse = true) (htext : dW (eF [] ops.toList) (kZ ops.toList 0 ops.toList []) = true) (hfr : fK ρ₀ s s')
  (I : Inv E ρ₀ m s w₀ a₀ ops.toList tm ev hp nx tv S a w ρ h ts) {i : Nat} {o : Oper} (hi : ops[i]? = some o) (hS : ¬ S i) (hall : ∀ e ∈ o.after, Region.binds .any e = true → S e.on) {ro : Option Nat} {n : Nat} {Q : Exit → Act → World → Prop} {next : Act → World → Prop}
  (hk : ∀ x w' ρ' h' ts', Inv E ρ₀ m s w₀ a₀ ops.toList tm ev hp nx tv (fun k => S k ∨ k = i) (a.put o.dst x) w' ρ' h' ts' → next (a.put o.dst x) w') :
  if Region.wanted o (yielded ops a.tmps) then o.wpIn (Fw ro) n E.P a w next Q else (∀ f, o.about E.P w a.eval = some f → (Fw ro).fn f) ∧ next (a.put o.dst Go.undef) w := by
 have hil : i < ops.toList.length := by simpa using (Array.getElem?_eq_some_iff.1 hi).1
 have hi' : ops.toList[i]? = some o := by simpa using hi
 have ahead : ∀ j, ((eF [] ops.toList).getD i 0).testBit j = true → S j := vH hback I.BP i o hi' hall
 have behind : ∀ k, i < k → k < ops.toList.length → S k → ((eF [] ops.toList).getD k 0).testBit i = true → False := fun k _ hk hs hb => by
  obtain ⟨ok, hok⟩ : ∃ ok, ops.toList[k]? = some ok := ⟨_, List.getElem?_eq_getElem hk⟩
  exact hS (vH hback I.BP k ok hok (I.BP k ok hs hok) i hb)
 have sep : ∀ j k, j < k → k < ops.toList.length → ((eF [] ops.toList).getD k 0).testBit j ≠ true → ∀ x,
   ((x ∈ (ev j).r ∨ x ∈ (ev j).w ∨ (nx j ≤ x ∧ x < nx (j + 1))) → TH ev nx k x → False) ∧ (TH ev nx j x → (x ∈ (ev k).r ∨ x ∈ (ev k).w ∨ (nx k ≤ x ∧ x < nx (k + 1))) → False) := by
  intro j k hjk hk hb x
  have := GX hfine hjk (t.X1 j (by omega)) (t.X1 k hk)
  have hc := this.resolve_right (by simpa using hb)
  exact ai6 hc (t.mono (j + 1) k (by omega) (by omega))
 have sepT : ∀ j k oj ok, j < k → ops.toList[j]? = some oj → ops.toList[k]? = some ok → ((eF [] ops.toList).getD k 0).testBit j ≠ true → ∀ x,
   ((x ∈ tF ops.toList oj ∨ oj.dst = some x) → ok.dst = some x → False) ∧ (oj.dst = some x → (x ∈ tF ops.toList ok ∨ ok.dst = some x) → False) := by
  intro j k oj ok hjk hj hk hb x
  obtain ⟨FT, e1, e2⟩ := CA (ops := ops.toList) ops.toList 0 []
  rw [e1, List.append_nil] at htext
  have := GX htext hjk (e2 j oj hj) (e2 k ok hk)
  have hb' : ((eF [] ops.toList).getD (0 + k) 0).testBit (0 + j) ≠ true := by simpa using hb
  obtain ⟨c1, c2, c3, _⟩ := vI (this.resolve_right hb')
  simp only at c1 c2 c3
  refine ⟨fun hx hd => ?_, fun hd hx => ?_⟩
  ·rcases hx with hx | hx
   ·exact j4 c3 hx (by simp [hd])
   ·exact j4 c2 (a := x) (by simp [hx]) (by simp [hd])
  ·rcases hx with hx | hx
   ·exact j4 c1 (a := x) (by simp [hd]) hx
   ·exact j4 c2 (a := x) (by simp [hd]) (by simp [hx])
 obtain ⟨hrun, hd⟩ := t.did i o hi'
 obtain ⟨n1, n2⟩ := t.next i hil
 obtain ⟨g1, g2⟩ := t.heap i hil
 have hnew : ∀ x, New (ev i).s (ev i).s' x ↔ (nx i ≤ x ∧ x < nx (i + 1)) := fun x => by unfold New; rw [n1, n2]
 have agree : ∀ x, (x ∈ (ev i).r ∨ x ∈ (ev i).w ∨ (nx i ≤ x ∧ x < nx (i + 1))) → h.get x = (hp i).get x := by
  intro x hx
  rw [I.heap x, oF (i := i) (by omega), t.SI x i (by omega)]
  ·intro j hj hT
   by_cases hb : ((eF [] ops.toList).getD i 0).testBit j = true
   ·exact ahead j hb
   ·exact ((sep j i hj hil hb x).2 hT hx).elim
  ·intro k hk hkn hs hT
   have hne : i ≠ k := fun e => hS (e ▸ hs)
   by_cases hb : ((eF [] ops.toList).getD k 0).testBit i = true
   ·exact behind k (by omega) hkn hs hb
   ·exact (sep i k (by omega) hkn hb x).1 hx hT
 have agreeT : ∀ x ∈ tF ops.toList o, nth ts x undef = nth (tv i) x undef := by
  intro x hx
  rw [hG, hG, I.tmps x, oF (i := i) (by omega), t.K6 x i (by omega)]
  ·rintro j hj ⟨oj, hoj, hdj⟩
   by_cases hb : ((eF [] ops.toList).getD i 0).testBit j = true
   ·exact ahead j hb
   ·exact ((sepT j i oj o hj hoj hi' hb x).2 hdj (.inl hx)).elim
  ·rintro k hk hkn hs ⟨ok, hok, hdk⟩
   have hne : i ≠ k := fun e => hS (e ▸ hs)
   by_cases hb : ((eF [] ops.toList).getD k 0).testBit i = true
   ·exact behind k (by omega) hkn hs hb
   ·exact (sepT i k o ok (by omega) hi' hok hb x).1 (.inl hx) hdk
 obtain ⟨t', ht', q1, q2, q3, q4, q5, q6, q7⟩ := hd.rP { heap := h, next := nx i, rds := [], wrs := [], obs := [], orc := (ev i).s.orc } n1.symm rfl (fun x hx => by
  rw [g1]
  refine agree x ?_
  rcases hx with hx | hx | hx
  ·exact .inl hx
  ·exact .inr (.inl hx)
  ·exact .inr (.inr ((hnew x).1 hx)))
 have hok : cF t' := by unfold cF; rw [q5]; simpa using t.ok i hil
 rw [ID (tm := tv i) (tm' := ts) (fun x hx => (agreeT x hx).symm)] at ht'
 have hfresh : fK ρ { heap := h, next := nx i, rds := [], wrs := [], obs := [], orc := (ev i).s.orc } t' := by
  intro id hid
  have h1 : nx i ≤ id := hid.1
  have h2 : id < nx (i + 1) := by have := hid.2; rw [q1, n2] at this; exact this
  cases e : ρ id with
  | none => rfl
  | some r =>
   rcases I.new id (by rw [e]; simp) with h0 | ⟨k, hsk, hkl, hk1, hk2⟩
   ·refine absurd (hfr id ⟨?_, ?_⟩) h0
    ·have := t.mono 0 i (by omega) (by omega); rw [t.n0] at this; omega
    ·have := t.mono (i + 1) ops.toList.length (by omega) (by omega); rw [t.nN] at this; omega
   ·have hne : i ≠ k := fun e => hS (e ▸ hsk)
    rcases Nat.lt_or_ge i k with hlt | hge
    ·have := t.mono (i + 1) k (by omega) (by omega); omega
    ·have := t.mono (k + 1) i (by omega) (by omega); omega
 refine B3 hrec ht' hok I.rel hfresh I.rl (fun x w' ρ' hpost hx => ?_)
 refine hk x w' ρ' t'.heap (bX ts o.dst (ev i).v) ⟨fun y => ?_, by rw [pS, I.len], fun y => ?_, ?_, hpost.rel, qO (I.rl.mono hpost.ren hpost.mle) o.dst hx, fun id r hr => hpost.ren id r (I.ren id r hr), fun id hid => ?_,
  I.fr.trans hpost.fr, by rw [Act.mC, I.defers]⟩
 ·rw [CR hS hil]
  ·by_cases hT : TH ev nx i y
   ·rw [if_pos hT]
    have := q6 y (by
     rcases hT with hT | hT
     ·exact .inl hT
     ·exact .inr ((hnew y).2 hT))
    rw [this, g2]
   ·rw [if_neg hT]
    have := q7 y (fun hh => hT (.inl hh)) (fun hh => hT (.inr ((hnew y).1 hh)))
    rw [this]
    exact I.heap y
  ·intro hT k hik hkn hs hTk
   by_cases hb : ((eF [] ops.toList).getD k 0).testBit i = true
   ·exact behind k hik hkn hs hb
   ·exact (sep i k hik hkn hb y).1 (hT.imp (fun h => h) (fun h => h) |>.elim (fun h => .inr (.inl h)) (fun h => .inr (.inr h))) hTk
 ·rw [CR hS hil]
  ·by_cases hT : TT ops.toList i y
   ·rw [if_pos hT]
    obtain ⟨o', ho', hdo⟩ := hT
    rw [hi'] at ho'
    injection ho' with ho'
    subst ho'
    rw [t.tmps i o hi', mK, mK, if_pos hdo, if_pos hdo, I.len, t.len i (by omega)]
   ·rw [if_neg hT]
    have hdo : ¬ o.dst = some y := fun hh => hT ⟨o, hi', hh⟩
    rw [mK, if_neg hdo]
    exact I.tmps y
  ·rintro ⟨o', ho', hdo⟩ k hik hkn hs ⟨ok, hok', hdk⟩
   by_cases hb : ((eF [] ops.toList).getD k 0).testBit i = true
   ·exact behind k hik hkn hs hb
   ·exact (sepT i k o' ok hik ho' hok' hb y).1 (.inr hdo) hdk
 ·intro k ok hs hok' e he hbe
  rcases hs with hs | rfl
  ·exact .inl (I.BP k ok hs hok' e he hbe)
  ·rw [hi'] at hok'
   injection hok' with hok'
   subst hok'
   exact .inl (hall e he hbe)
 ·rcases hpost.new id hid with h1 | h1
  ·rcases I.new id h1 with h2 | ⟨k, hsk, h3⟩
   ·exact .inl h2
   ·exact .inr ⟨k, .inl hsk, h3⟩
  ·refine .inr ⟨i, .inr rfl, hil, h1.1, ?_⟩
   have := h1.2
   rw [q1, n2] at this
   exact this
theorem S8 {rec : Rec} (hrec : nY E.P rec) {ops : Array Oper} {tm tm' : List a9} {F : List gN} {ev : Nat → Ev} {hp : Nat → Tr} {nx : Nat → Nat} {tv : Nat → List a9} {a₀ : Act}
  (t : Tra E rec ops.toList 0 ops.toList tm s tm' s' F ev hp nx tv) (hback : tW 0 ops.toList = true) (hfine : dW (eF [] ops.toList) F.reverse = true) (htext : dW (eF [] ops.toList) (kZ ops.toList 0 ops.toList []) = true) (hfr : fK ρ₀ s s')
  {ro : Option Nat} {n : Nat} {Q : Exit → Act → World → Prop} (hQ : ∀ a' w' ρ', fF E.P ρ₀ m s w₀ ρ' m s' w' → RL ρ' m tm' a'.tmps → a'.defers = a₀.defers → Q .normal a' w') :
  ∀ (fuel : Nat) (listed : Array Bool), listed.size = ops.size → (listed.toList.filter (!·)).length ≤ fuel → ∀ a w ρ h ts, Inv E ρ₀ m s w₀ a₀ ops.toList tm ev hp nx tv (fun k => listed.getD k false = true) a w ρ h ts →
   wpAnyIn (Fw ro) n E.P .any ops Q fuel listed a w := by
 intro fuel
 have lst : ∀ (listed : Array Bool), listed.size = ops.size → ∀ k, listed.getD k true = false ↔ (k < ops.size ∧ ¬ listed.getD k false = true) := by
  intro listed hsz k
  by_cases hk : k < ops.size
  ·have : k < listed.size := by omega
   simp [Array.getD, this, hk]
  ·have : ¬ k < listed.size := by omega
   simp [Array.getD, this, hk]
 have done : ∀ (listed : Array Bool), listed.size = ops.size → Region.ready .any ops listed = [] → ∀ a w ρ h ts, Inv E ρ₀ m s w₀ a₀ ops.toList tm ev hp nx tv (fun k => listed.getD k false = true) a w ρ h ts → Q .normal a w := by
  intro listed hsz hr a w ρ h ts I
  have all : ∀ k, k < ops.size → listed.getD k false = true := by
   intro k
   induction k using Nat.strongRecOn with
   | _ k ih =>
    intro hk
    by_cases hl : listed.getD k false = true
    ·exact hl
    ·have ho : ops[k]? = some ops[k] := Array.getElem?_eq_getElem hk
     have : k ∈ Region.ready .any ops listed := mem_ready.2 ⟨(lst listed hsz k).2 ⟨hk, hl⟩, ops[k], ho, fun e he hb => by
      have := sL ops.toList 0 hback k ops[k] (by rw [Array.getElem?_toList]; exact ho) e he hb
      exact ih e.on (by omega) (by omega)⟩
     rw [hr] at this
     cases this
  have hT : ∀ {α : Type} (eQ : Nat → α) (T : Nat → Nat → Prop) (V : Nat → Nat → α) (x : Nat), iD eQ T V (fun k => listed.getD k false = true) ops.toList.length x = iD eQ T V (fun _ => True) ops.toList.length x := by
   intro α eQ T V x
   exact oF (Nat.le_refl _) (fun j hj _ => all j (by simpa using hj)) (fun k hk hk' => by omega)
  refine hQ a w ρ ⟨I.ren, fun id hid => ?_, fun _ _ h => h, I.rel.congr (fun id => ?_), I.fr, ?_⟩ ?_ I.defers
  ·rcases I.new id hid with h0 | ⟨k, _, hkl, h1, h2⟩
   ·exact .inl h0
   ·refine .inr ⟨?_, ?_⟩
    ·have := t.mono 0 k (by omega) (by omega); rw [t.n0] at this; omega
    ·have := t.mono (k + 1) ops.toList.length (by omega) (by omega); rw [t.nN] at this; omega
  ·rw [I.heap id, hT, t.SI id _ (Nat.le_refl _), t.hN]
  ·have := t.mono 0 ops.toList.length (by omega) (by omega); rw [t.n0, t.nN] at this; exact this
  ·have : ts = tm' := by
    apply List.ext_getElem?
    intro x
    rw [I.tmps x, hT, t.K6 x _ (Nat.le_refl _), t.tN]
   rw [← this]; exact I.rl
 induction fuel with
 | zero =>
  intro listed hsz hc a w ρ h ts I
  have hr : Region.ready .any ops listed = [] := by
   cases hr : Region.ready .any ops listed with
   | nil => rfl
   | cons j l =>
    have hj : j ∈ Region.ready .any ops listed := by rw [hr]; exact List.mem_cons_self
    obtain ⟨h1, o, h2, _⟩ := mem_ready.1 hj
    have hj' := (lst listed hsz j).1 h1
    have hlt : j < listed.size := by omega
    have := sH listed.toList (by omega) j listed[j] (by simp [hlt])
    exfalso
    apply hj'.2
    simp [Array.getD, hlt, this]
  exact ⟨hr, done listed hsz hr a w ρ h ts I⟩
 | succ fuel ih =>
  intro listed hsz hc a w ρ h ts I
  refine ⟨fun hr => done listed hsz hr a w ρ h ts I, fun i hi => ?_⟩
  obtain ⟨h1, o, h2, h3⟩ := mem_ready.1 hi
  have hi' := (lst listed hsz i).1 h1
  unfold wpOpIn
  rw [h2]
  refine I.step hrec t hback hfine htext hfr h2 hi'.2 h3 (fun x w' ρ' h' ts' I' => ?_)
  refine ih (listed.setIfInBounds i true) (by simpa using hsz) ?_ _ w' ρ' h' ts' ?_
  ·have hlt : i < listed.size := by omega
   have hf : listed.toList[i]? = some false := by
    have : listed.getD i true = listed[i] := by simp [Array.getD, hlt]
    rw [this] at h1
    simp [hlt, h1]
   have := uR listed.toList i hf
   simp only [Array.toList_setIfInBounds]
   omega
  ·have e : (fun k => (listed.setIfInBounds i true).getD k false = true) = fun k => listed.getD k false = true ∨ k = i := by
    funext k
    apply propext
    have hlt : i < listed.size := by omega
    by_cases hk : k = i
    ·subst hk
     simp [Array.getD, hlt]
    ·have hk' : ¬ i = k := fun h => hk h.symm
     simp only [hk, or_false]
     simp only [Array.getD_eq_getD_getElem?, Array.getElem?_setIfInBounds, hk', if_false]
   rw [e]; exact I'
theorem NW {rec : Rec} (hrec : nY E.P rec) {fn : FuncId} {rnd : Option Nat} {id : Nat} {ops : Array Oper} : sN E.P rnd (.region id ops true) (step E rec fn rnd (.region id ops true)) := by
 intro tm e tm' s s' h ho ρ m w a o n Q hr hf ht hn hQ
 simp only [step] at h
 cases hk : gQ E.rV fn id (.region id ops true) with
 | some act =>
  rw [hk] at h
  exact tV hk rnd tm e tm' s s' h ho ρ m w a o n Q hr hf ht hn hQ
 | none =>
 rw [hk] at h
 obtain ⟨tm1, s1, h1, h2⟩ := M.aF h
 obtain ⟨he1, rfl⟩ := aC h2
 injection he1 with q1 q2
 subst q1; subst q2
 obtain ⟨_, s2, h3, h4, ho2, _, n2⟩ := M.aH h1 ho
 obtain ⟨htx, e2⟩ := eY h3 ho2
 obtain ⟨⟨tm3, fs⟩, s3, h5, h6, ho3, _, _⟩ := M.aH h4 ho
 obtain ⟨_, s4, h7, h8⟩ := M.aF h6
 obtain ⟨rfl, rfl⟩ := aC h8
 obtain ⟨hfine, e7⟩ := eY h7 ho
 obtain ⟨F, ev, hp, nx, tv, rfl, t⟩ := BJ _ _ _ _ _ _ _ _ h5 ho3
 rw [List.append_nil] at hfine
 have htx' : tW 0 ops.toList = true ∧ dW (eF [] ops.toList) (kZ ops.toList 0 ops.toList []) = true := by
  have : sQ ops.toList = true := htx
  unfold sQ at this
  simpa using this
 have hr2 := hr.bY e2
 have hf2 : fK ρ s2 s3 := fun i hi => hf i ⟨by have := hi.1; rw [e2.next] at this; exact this, by have := hi.2; rw [e7.next]; exact this⟩
 refine wpIn_region_any E.GK (S8 (ρ₀ := ρ) (m := m) (w₀ := w) (a₀ := a) hrec t htx'.1 hfine htx'.2 hf2 (fun a' w' ρ' hp' ht' hd => ?_) ops.size (Array.replicate ops.size false) (by simp) (by simp) a _ ρ s2.heap tm ?_)
 ·have hpost : fF E.P ρ m s w ρ' m s' w' := ⟨hp'.ren, fun i hi => (hp'.new i hi).imp_right fun x => ⟨by have := x.1; rw [e2.next] at this; exact this, by have := x.2; rw [e7.next]; exact this⟩, hp'.mem, hp'.rel.bY e7, hp'.fr, by
   have := hp'.next; rw [e2.next] at this; rw [e7.next]; exact this⟩
  refine hQ _ _ _ ρ' [] ⟨?_, ?_, .normal, hd, .nil m, fun _ => rfl⟩
  ·rw [Mem.fG]; exact hpost
  ·rw [Mem.fG]; exact sE ht'
 ·have none : ∀ k, ¬ ((Array.replicate ops.size false).getD k false = true) := fun k => by
   by_cases hk : k < ops.size <;> simp [Array.getD, hk]
  have hl : ∀ {α : Type} (eQ : Nat → α) (T : Nat → Nat → Prop) (V : Nat → Nat → α) (x : Nat), iD eQ T V (fun k => (Array.replicate ops.size false).getD k false = true) ops.toList.length x = eQ x := by
   intro α eQ T V x
   rw [oF (i := 0) (Nat.zero_le _) (fun j hj => by omega) (fun k _ _ hs => absurd hs (none k))]
   rfl
  exact ⟨fun x => by rw [hl], rfl, fun x => by rw [hl], fun k _ hs => absurd hs (none k), hr2.drew, ht, .refl ρ, fun _ h => .inl h, .drew w, rfl⟩
end
end Go.Am
set_option linter.unusedSimpArgs false
set_option linter.unusedVariables false
namespace Go.Am
open Go Go.RowKit
variable {E : Env}
theorem KM {rec : Rec} (hrec : nY E.P rec) {fn : FuncId} {rnd : Option Nat} {c : Code} (hc : ∀ b, c ≠ .loop b) : sN E.P rnd c (step E rec fn rnd c) := by
 cases c with
 | skip =>
  intro tm e tm' s s' h ho ρ m w a o n Q hr hf ht hn hQ
  obtain ⟨he, rfl⟩ := aC h
  injection he with q1 q2
  subst q1; subst q2
  exact wpIn_skip (hQ _ _ _ _ _ (.CB hr (.refl _) ht .normal))
 | label l =>
  intro tm e tm' s s' h ho ρ m w a o n Q hr hf ht hn hQ
  obtain ⟨he, rfl⟩ := aC h
  injection he with q1 q2
  subst q1; subst q2
  exact wpIn_label (hQ _ _ _ _ _ (.CB hr (.refl _) ht .normal))
 | exit id =>
  intro tm e tm' s s' h ho ρ m w a o n Q hr hf ht hn hQ
  obtain ⟨he, rfl⟩ := aC h
  injection he with q1 q2
  subst q1; subst q2
  exact wpIn_exit (hQ _ _ _ _ _ (.CB hr (.refl _) ht (.exit id)))
 | ret =>
  intro tm e tm' s s' h ho ρ m w a o n Q hr hf ht hn hQ
  obtain ⟨he, rfl⟩ := aC h
  injection he with q1 q2
  subst q1; subst q2
  exact wpIn_ret (hQ _ _ _ _ _ (.CB hr (.refl _) ht .ret))
 | region id ops draw =>
  cases draw with
  | false => exact EF hrec
  | true => exact NW hrec
 | seq x y => exact PZ hrec
 | cond c x y => exact O6 hrec
 | block id c => exact JI hrec
 | loop b => exact absurd rfl (hc b)
 | rangeFunc f ps as body => exact zC hrec
 | scope c => exact I1 hrec
 | goto l => intro tm e tm' s s' h; exact (aD h).elim
 | refuse w => intro tm e tm' s s' h; exact (aD h).elim
theorem AE : ∀ n, nY E.P (kF E n) := by
 intro n
 induction n using Nat.strongRecOn with
 | _ n ih =>
  intro fn rnd c
  cases n with
  | zero => intro tm e tm' s s' h; exact (aD h).elim
  | succ n =>
   by_cases hc : ∃ b, c = .loop b
   ·obtain ⟨b, rfl⟩ := hc
    exact MJ (F := kF E) (fun tm e tm' s s' h => aD h) (fun j _ => rfl) (fun j hj => ih j hj fn rnd b)
   ·exact KM (ih n (by omega)) (fun b hb => hc ⟨b, hb⟩)
def sB (w : World) : Mem := fun b => w.heap[b]?
theorem RR {f : FuncId} {n : Nat} {args : List a9} {xs : Array Value} {w : World} {v : a9} {s s' : St} (h : (bM E (kF E n) f args).run s = .ok v s') (ho : cF s') (hs : ∀ id, s.heap.get id = none) (hx : RL (fun _ => none) (sB w) args xs) :
  Calls E.P f xs w fun e w' => ∃ x ρ', e = .returned x ∧ R ρ' (sB w) v x ∧ Below w.heap.size w w' := by
 have hr : Rel E.P (fun _ => none) (sB w) s.heap.get w := ⟨fun id b hb => absurd hb (by rw [hs id]; simp), fun i j b c r r' hb => absurd hb (by rw [hs i]; simp), fun b o hb => hb⟩
 rcases nU (AE n) f args s v s' h ho _ _ w xs hr (fun _ _ => rfl) hx with ⟨_, hc⟩ | ⟨x, w', he, _⟩
 ·refine hc.mono (fun e w' hh => ?_)
  obtain ⟨x, rfl, ρ', hp, hx⟩ := hh
  refine ⟨x, ρ', rfl, hx, hp.fr.os, hp.fr.tape, hp.fr.output, hp.fr.size, fun k hk => ?_⟩
  have : (sB w) k = some w.heap[k] := by simp [sB, hk]
  rw [hp.rel.mem k _ this]
  exact this.symm
 ·exfalso
  unfold bM at h
  split at h
  ·rename_i hb
   have hfok := (E.funcs.find f).ok
   rw [Nat.eq_of_beq_eq_true hb] at hfok
   rw [hfok.call] at he
   injection he with he
   cases he
  ·exact (aD h).elim
end Go.Am
set_option linter.unusedSimpArgs false
set_option linter.unusedVariables false
namespace Go.Am
open Go
structure Use where
 fn : FuncId
 rnd : Option Nat
 c : Code
 tm : List a9
 s : St
 e : fV
 tm' : List a9
 s' : St
def Use.In (u : Use) (rec : Rec) : Prop := (rec u.fn u.rnd u.c u.tm).run u.s = .ok (u.e, u.tm') u.s'
structure gO {α : Type} (X : Rec → M α) : Prop where
 out : ∀ rec s a s', (X rec).run s = .ok a s' → ∃ L : List Use, (∀ u ∈ L, u.In rec) ∧ ∀ rec', (∀ u ∈ L, u.In rec') → (X rec').run s = .ok a s'
theorem gO.const {α : Type} (m : M α) : gO (fun _ => m) := ⟨fun _ s a s' h => ⟨[], (fun _ hu => by cases hu), fun _ _ => h⟩⟩
theorem gO.use (fn : FuncId) (rnd : Option Nat) (c : Code) (tm : List a9) : gO (fun rec => rec fn rnd c tm) := ⟨fun rec s a s' h =>
 ⟨[⟨fn, rnd, c, tm, s, a.1, a.2, s'⟩], fun u hu => by simp only [List.mem_singleton] at hu; subst hu; exact h, fun rec' hr => hr _ (List.mem_singleton.2 rfl)⟩⟩
theorem gO.bind {α β : Type} {X : Rec → M α} {f : Rec → α → M β} (hX : gO X) (hf : ∀ a, gO (fun rec => f rec a)) : gO (fun rec => (X rec).bind (f rec)) := by
 refine ⟨fun rec s b s2 h => ?_⟩
 obtain ⟨a, s1, h1, h2⟩ := M.aF h
 obtain ⟨L1, q1, r1⟩ := hX.out rec s a s1 h1
 obtain ⟨L2, q2, r2⟩ := (hf a).out rec s1 b s2 h2
 refine ⟨L1 ++ L2, fun u hu => (List.mem_append.1 hu).elim (q1 u) (q2 u), fun rec' hr => ?_⟩
 have e1 := r1 rec' fun u hu => hr u (List.mem_append.2 (.inl hu))
 have e2 := r2 rec' fun u hu => hr u (List.mem_append.2 (.inr hu))
 simp only [M.bind, mP, e1, e2]
variable {E : Env}
theorem A9 (f : FuncId) (args : List a9) : gO (fun rec => bM E rec f args) := by
 unfold bM
 split
 ·exact gO.bind (.use ..) fun r => .const _
 ·exact .const _
theorem F0 (f : FuncId) (args : List a9) {k : Rec → M a9} (hk : gO k) : ∀ l : List (u0 E.P), gO (fun rec => pU E l f args (k rec)) := by
 intro l
 induction l with
 | nil => exact hk
 | cons h l ih =>
  simp only [pU]
  split
  ·exact .const _
  ·exact ih
theorem AA (f : FuncId) (args : List a9) : gO (fun rec => gX E rec f args) := F0 f args (A9 f args) E.xL
theorem A8 {α : Type} {k : Rec → lE → M α} (hk : ∀ l, gO (fun rec => k rec l)) (b : Blk) : gO (fun rec => cW (k rec) b) := by
 unfold cW
 split
 ·exact hk _
 ·exact .const _
theorem DF (id : Nat) (args : List a9) : gO (fun rec => sO rec id args) := by
 unfold sO
 refine gO.bind (.const _) fun b => A8 (fun l => ?_) b
 split
 ·exact .const _
 ·split
  ·refine gO.bind (.use ..) fun r => ?_
   split
   ·refine gO.bind (.const _) fun b => A8 (fun l2 => ?_) b
    split
    ·refine gO.bind (.const _) fun _ => gO.bind (.use ..) fun r2 => ?_
     exact .const _
    ·exact .const _
   ·exact .const _
  ·exact .const _
theorem J0 (f : a9) (args : List a9) : gO (fun rec => kG E rec f args) := by
 unfold kG
 split
 ·split
  ·exact AA _ _
  ·split
   ·exact DF _ _
   ·exact .const _
  ·exact .const _
 ·exact .const _
theorem F7 (tm : List a9) (c : Call) : gO (fun rec => cJ E rec tm c) := by
 unfold cJ
 split
 ·exact J0 _ _
 ·exact .const _
 ·exact .const _
theorem F6 (tm : List a9) (o : Op) : gO (fun rec => execOp E rec tm o) := by
 unfold execOp
 split
 all_goals first
  | exact .const _
  | exact F7 _ _
theorem GZ (ops : List Oper) (o : Oper) (tm : List a9) : gO (fun rec => opV E rec ops o tm) := by
 unfold opV
 refine gO.bind (.const _) fun w => ?_
 split
 ·exact F6 _ _
 ·exact .const _
theorem DG (ops : List Oper) : ∀ (l : List Oper) (tm : List a9), gO (fun rec => kY E rec ops l tm) := by
 intro l
 induction l with
 | nil => intro tm; exact .const _
 | cons o l ih =>
  intro tm
  simp only [kY, IE]
  exact gO.bind (gO.bind (GZ ops o tm) fun v => .const _) fun tm => ih tm
theorem NK {α : Type} (j : Nat) {X : Rec → M α} (hX : gO X) : gO (fun rec => kS j (X rec)) := by
 refine ⟨fun rec s a s' h => ?_⟩
 simp only [kS, mL] at h
 cases hm : (X rec).run { s with rds := [], wrs := [] } with
 | bF w => rw [hm] at h; cases h
 | ask b => rw [hm] at h; cases h
 | ok a1 s1 =>
  rw [hm] at h
  obtain ⟨L, q, r⟩ := hX.out rec _ _ _ hm
  refine ⟨L, q, fun rec' hr => ?_⟩
  simp only [kS, mL, r rec' hr]
  exact h
theorem BH (ops : List Oper) : ∀ (l : List Oper) (j : Nat) (tm : List a9) (fs : List gN), gO (fun rec => jK E rec ops j l tm fs) := by
 intro l
 induction l with
 | nil => intro j tm fs; exact .const _
 | cons o l ih =>
  intro j tm fs
  simp only [jK]
  exact gO.bind (NK j (GZ ops o tm)) fun r => ih _ _ _
theorem xT (fn : FuncId) (rnd : Option Nat) (c : Code) (tm : List a9) : gO (fun rec => step E rec fn rnd c tm) := by
 unfold step
 split
 ·exact .const _
 ·exact .const _
 ·split
  ·exact gO.bind (DG _ _ _) fun _ => .const _
  ·split
   ·exact .const _
   ·unfold xV
    exact gO.bind (gO.bind (.const _) fun _ => gO.bind (BH _ _ _ _ _) fun _ => .const _) fun _ => .const _
 ·refine gO.bind (.use ..) fun r => ?_
  split
  ·exact .use ..
  ·exact .const _
 ·refine gO.bind (.const _) fun t => ?_
  split
  ·exact .use ..
  ·exact .use ..
 ·split
  ·exact .const _
  ·refine gO.bind (.use ..) fun r => ?_
   exact .const _
 ·refine gO.bind (.use ..) fun r => ?_
  split
  ·exact .use ..
  ·exact .const _
 ·split
  ·split
   ·split
    ·exact gO.bind (.const _) fun _ => gO.bind (.const _) fun id => gO.bind (AA _ _) fun _ => .const _
    ·exact .const _
   ·exact .const _
  ·exact .const _
 ·exact .const _
 ·exact .use ..
 ·exact .const _
 ·exact .const _
theorem FB : ∀ n fn rnd c tm s r s', (kF E n fn rnd c tm).run s = .ok r s' → (kF E (n + 1) fn rnd c tm).run s = .ok r s' := by
 intro n
 induction n with
 | zero => intro fn rnd c tm s r s' h; cases h
 | succ n ih =>
  intro fn rnd c tm s r s' h
  obtain ⟨L, q, hr⟩ := (xT fn rnd c tm).out (kF E n) s r s' h
  exact hr (kF E (n + 1)) fun u hu => ih _ _ _ _ _ _ _ (q u hu)
theorem tM {n m : Nat} (hm : n ≤ m) {fn rnd c tm s r s'} (h : (kF E n fn rnd c tm).run s = .ok r s') : (kF E m fn rnd c tm).run s = .ok r s' := by
 induction hm with
 | refl => exact h
 | step _ ih => exact FB _ _ _ _ _ _ _ _ ih
open Classical in
noncomputable def wF (E : Env) (fn : FuncId) (rnd : Option Nat) (c : Code) (tm : List a9) (s : St) : Res (fV × List a9) :=
 if h : ∃ n r s', (kF E n fn rnd c tm).run s = .ok r s' then (kF E h.choose fn rnd c tm).run s else .bF "no end"
theorem JP {fn rnd c tm s r s'} : wF E fn rnd c tm s = .ok r s' ↔ ∃ n, (kF E n fn rnd c tm).run s = .ok r s' := by
 unfold wF
 constructor
 ·intro h
  split at h
  ·exact ⟨_, h⟩
  ·cases h
 ·rintro ⟨n, hn⟩
  have hex : ∃ n r s', (kF E n fn rnd c tm).run s = .ok r s' := ⟨n, r, s', hn⟩
  rw [dif_pos hex]
  obtain ⟨r2, s2, h2⟩ := hex.choose_spec
  have e1 := tM (Nat.le_max_left n hex.choose) hn
  have e2 := tM (Nat.le_max_right n hex.choose) h2
  rw [h2]
  rw [e1] at e2
  exact e2.symm
theorem YZ {fn rnd c tm} : Loc (wF E fn rnd c tm) := by
 intro s a s' h
 obtain ⟨n, hn⟩ := JP.1 h
 obtain ⟨r, w, o, d⟩ := (kF E n fn rnd c tm).loc _ _ _ hn
 exact ⟨r, w, o, d.next, d.rds, d.wrs, d.obs, d.bH, d.eT, fun t h1 h2 h3 => by
  obtain ⟨t', e, k⟩ := d.rP t h1 h2 h3
  exact ⟨t', JP.2 ⟨n, e⟩, k⟩, d.orc, d.uX⟩
noncomputable def aY (E : Env) : Rec := fun fn rnd c tm => ⟨wF E fn rnd c tm, YZ⟩
theorem pX {fn rnd c tm s r s'} : (aY E fn rnd c tm).run s = .ok r s' ↔ ∃ n, (kF E n fn rnd c tm).run s = .ok r s' := JP
theorem HR : ∀ L : List Use, (∀ u ∈ L, u.In (aY E)) → ∃ n, ∀ u ∈ L, u.In (kF E n) := by
 intro L
 induction L with
 | nil => intro _; exact ⟨0, fun _ h => by cases h⟩
 | cons u L ih =>
  intro h
  obtain ⟨n, hn⟩ := ih fun v hv => h v (List.mem_cons.2 (.inr hv))
  obtain ⟨m, hm⟩ := pX.1 (h u (List.mem_cons.2 (.inl rfl)))
  refine ⟨max n m, fun v hv => ?_⟩
  rcases List.mem_cons.1 hv with rfl | hv
  ·exact tM (Nat.le_max_right n m) hm
  ·exact tM (Nat.le_max_left n m) (hn v hv)
theorem gO.fuel {α : Type} {X : Rec → M α} (hX : gO X) {s a s'} (h : (X (aY E)).run s = .ok a s') : ∃ n, (X (kF E n)).run s = .ok a s' := by
 obtain ⟨L, q, r⟩ := hX.out _ _ _ _ h
 obtain ⟨n, hn⟩ := HR L q
 exact ⟨n, r _ hn⟩
theorem FA {fn rnd c tm s r s'} (h : (step E (aY E) fn rnd c tm).run s = .ok r s') : (aY E fn rnd c tm).run s = .ok r s' := by
 obtain ⟨n, hn⟩ := (xT fn rnd c tm).fuel h
 exact pX.2 ⟨n + 1, hn⟩
theorem lV : nY E.P (aY E) := by
 intro fn rnd c tm e tm' s s' h
 obtain ⟨n, hn⟩ := pX.1 h
 exact AE n fn rnd c tm e tm' s s' hn
end Go.Am
set_option linter.unusedSimpArgs false
set_option linter.unusedVariables false
namespace Go.Am
open Go
abbrev Hp := Nat → Option Blk
def upd (h : Hp) (i : Nat) (b : Option Blk) : Hp := fun j => if j = i then b else h j
theorem aP (h : Hp) (i : Nat) (b : Option Blk) : upd h i b i = b := by simp [upd]
theorem aG (h : Hp) {i j : Nat} (b : Option Blk) (hn : j ≠ i) : upd h i b j = h j := by simp [upd, hn]
theorem wC (h : Hp) (i : Nat) (a b : Option Blk) : upd (upd h i a) i b = upd h i b := by
 funext j; simp only [upd]; split <;> rfl
structure At (s : St) (h : Hp) (n : Nat) : Prop where
 hp : s.heap.get = h
 nx : s.next = n
 oc : s.orc = none
structure yY {α : Type} (m : M α) (s : St) (a : α) (s' : St) : Prop where
 run : m.run s = .ok a s'
 obs : ∃ o, s'.obs = o ++ s.obs ∧ o.all id = true
 oc : s'.orc = none
def at0 (h : Hp) (n : Nat) : St := { heap := .fn h, next := n, rds := [], wrs := [], obs := [], orc := none }
theorem mQ (h : Hp) (n : Nat) : At (at0 h n) h n := ⟨rfl, rfl, rfl⟩
def Wp {α : Type} (m : M α) (h : Hp) (n : Nat) (Q : α → Hp → Nat → Prop) : Prop :=
 ∃ s a s', At s h n ∧ yY m s a s' ∧ Q a s'.heap.get s'.next
theorem G3 {α : Type} {m : M α} {h : Hp} {n : Nat} {Q : α → Hp → Nat → Prop} (hw : Wp m h n Q) {t : St} (ht : At t h n) : ∃ a t', yY m t a t' ∧ Q a t'.heap.get t'.next := by
 obtain ⟨s, a, s', hs, he, hq⟩ := hw
 obtain ⟨r, w, o, d⟩ := m.loc _ _ _ he.run
 have hh : t.heap.get = s.heap.get := by rw [ht.hp, hs.hp]
 obtain ⟨t', e, hn, ho, hr, hw, hob, hg, hk⟩ := d.rP t (by rw [ht.nx, hs.nx]) (by rw [ht.oc, hs.oc]) (fun id _ => by rw [hh])
 have hget : t'.heap.get = s'.heap.get := by
  funext id
  by_cases hc : id ∈ w ∨ New s s' id
  ·exact hg id hc
  ·simp only [not_or] at hc
   rw [hk id hc.1 hc.2, hh, d.bH id hc.1 hc.2]
 refine ⟨a, t', ⟨e, ⟨o, hob, ?_⟩, by rw [ho, he.oc]⟩, by rw [hget, hn]; exact hq⟩
 obtain ⟨o2, h1, h2⟩ := he.obs
 rw [d.obs] at h1
 rw [List.append_cancel_right h1]
 exact h2
theorem fM {α : Type} {m : M α} {h : Hp} {n : Nat} {Q : α → Hp → Nat → Prop} : Wp m h n Q ↔ ∃ a s', yY m (at0 h n) a s' ∧ Q a s'.heap.get s'.next :=
 ⟨fun hw => G3 hw (mQ h n), fun ⟨a, s', he, hq⟩ => ⟨_, a, s', mQ h n, he, hq⟩⟩
theorem yY.trans {α β : Type} {m : M α} {f : α → M β} {s s1 s2 : St} {a : α} {b : β} (h1 : yY m s a s1) (h2 : yY (f a) s1 b s2) : yY (m.bind f) s b s2 := by
 refine ⟨by simp only [M.bind, mP, h1.run, h2.run], ?_, h2.oc⟩
 obtain ⟨o1, e1, q1⟩ := h1.obs
 obtain ⟨o2, e2, q2⟩ := h2.obs
 exact ⟨o2 ++ o1, by rw [e2, e1, List.append_assoc], by rw [List.all_append, q1, q2]; rfl⟩
theorem M.ext' {α : Type} {m m' : M α} (h : ∀ s, m.run s = m'.run s) : m = m' := by
 cases m with | mk r l => cases m' with | mk r' l' =>
  have : r = r' := funext h
  subst this; rfl
theorem aB {α β : Type} (a : α) (f : α → M β) : (M.pure a).bind f = f a := M.ext' fun s => rfl
theorem JJ {α β : Type} (w : String) (f : α → M β) : (bF w : M α).bind f = bF w := M.ext' fun s => rfl
theorem bind_assoc {α β γ : Type} (m : M α) (f : α → M β) (g : β → M γ) : (m.bind f).bind g = m.bind fun a => (f a).bind g := M.ext' fun s => by
 simp only [M.bind, mP]
 cases m.run s <;> rfl
theorem dL {α : Type} {m : M α} {h : Hp} {n : Nat} {Q Q' : α → Hp → Nat → Prop} (hw : Wp m h n Q) (hq : ∀ a h' n', Q a h' n' → Q' a h' n') : Wp m h n Q' := by
 obtain ⟨s, a, s', hs, he, hh⟩ := hw
 exact ⟨s, a, s', hs, he, hq _ _ _ hh⟩
theorem AO {α β : Type} {m : M α} {f : α → M β} {h : Hp} {n : Nat} {Q : β → Hp → Nat → Prop} (hw : Wp m h n (fun a h' n' => Wp (f a) h' n' Q)) : Wp (m.bind f) h n Q := by
 obtain ⟨s, a, s1, hs, he, hq⟩ := hw
 obtain ⟨b, s2, he2, hq2⟩ := G3 hq ⟨rfl, rfl, he.oc⟩
 exact ⟨s, b, s2, hs, he.trans he2, hq2⟩
theorem aM {α : Type} {a : α} {h : Hp} {n : Nat} {Q : α → Hp → Nat → Prop} : Wp (M.pure a) h n Q ↔ Q a h n := by
 rw [fM]
 constructor
 ·rintro ⟨a', s', he, hq⟩
  have h0 := he.run
  simp only [M.pure] at h0
  injection h0 with h1 h2
  subst h1; subst h2
  exact hq
 ·intro hq
  exact ⟨a, at0 h n, ⟨rfl, ⟨[], rfl, rfl⟩, rfl⟩, hq⟩
theorem PL {α : Type} {w : String} {h : Hp} {n : Nat} {Q : α → Hp → Nat → Prop} : Wp (bF w) h n Q ↔ False := by
 rw [fM]
 refine ⟨?_, False.elim⟩
 rintro ⟨a', s', he, hq⟩
 cases he.run
theorem yY.zY {α β : Type} {m : M α} {f : α → M β} {s s1 s2 : St} {a : α} {b : β} (h1 : m.run s = .ok a s1) (h2 : (f a).run s1 = .ok b s2) (h : ∃ o, s2.obs = o ++ s.obs ∧ o.all id = true) :
  (∃ o, s1.obs = o ++ s.obs ∧ o.all id = true) ∧ ∃ o, s2.obs = o ++ s1.obs ∧ o.all id = true := by
 obtain ⟨_, _, o1, d1⟩ := m.loc _ _ _ h1
 obtain ⟨_, _, o2, d2⟩ := (f a).loc _ _ _ h2
 obtain ⟨o, e, q⟩ := h
 have : o = o2 ++ o1 := by
  have e2 := d2.obs
  rw [d1.obs, ← List.append_assoc, e] at e2
  exact List.append_cancel_right e2
 subst this
 rw [List.all_append, Bool.and_eq_true] at q
 exact ⟨⟨o1, d1.obs, q.2⟩, ⟨o2, d2.obs, q.1⟩⟩
theorem qJ {α β : Type} {m : M α} {f : α → M β} {h h1 : Hp} {n n1 : Nat} {Q : β → Hp → Nat → Prop} {a : α} {s1 : St} (hr : m.run (at0 h n) = .ok a s1) (h1e : s1.heap.get = h1) (hn1 : s1.next = n1) (ho : s1.orc = none) :
  Wp (m.bind f) h n Q ↔ s1.obs.all id = true ∧ Wp (f a) h1 n1 Q := by
 constructor
 ·intro hw
  obtain ⟨b, s2, he, hq⟩ := fM.1 hw
  obtain ⟨a', s1', e1, e2⟩ := M.aF he.run
  rw [hr] at e1
  injection e1 with q1 q2
  subst q1; subst q2
  obtain ⟨⟨o, k1, k2⟩, hob2⟩ := yY.zY hr e2 he.obs
  refine ⟨?_, s1, b, s2, ⟨h1e, hn1, ho⟩, ⟨e2, hob2, he.oc⟩, hq⟩
  rw [k1]
  simpa [at0] using k2
 ·rintro ⟨hob, hw⟩
  obtain ⟨b, s2, he, hq⟩ := G3 hw ⟨h1e, hn1, ho⟩
  exact ⟨at0 h n, b, s2, mQ h n, (yY.trans (m := m) (f := f) ⟨hr, ⟨s1.obs, by simp [at0], hob⟩, ho⟩ he), hq⟩
theorem dX {α β : Type} {m : M α} {f : α → M β} {h : Hp} {n : Nat} {Q : β → Hp → Nat → Prop} : Wp (m.bind f) h n Q ↔ Wp m h n fun a h' n' => Wp (f a) h' n' Q := by
 refine ⟨fun hw => ?_, AO⟩
 obtain ⟨b, s2, he, hq⟩ := fM.1 hw
 obtain ⟨a, s1, e1, e2⟩ := M.aF he.run
 obtain ⟨hob1, hob2⟩ := yY.zY e1 e2 he.obs
 obtain ⟨_, _, _, d⟩ := m.loc _ _ _ e1
 have ho := d.orc rfl
 exact ⟨_, a, s1, mQ h n, ⟨e1, hob1, ho⟩, s1, b, s2, ⟨rfl, rfl, ho⟩, ⟨e2, hob2, he.oc⟩, hq⟩
theorem fW {α : Type} {id : Nat} {f : Blk → M α} {h : Hp} {n : Nat} {Q : α → Hp → Nat → Prop} : Wp ((fT id).bind f) h n Q ↔ ∃ b, h id = some b ∧ Wp (f b) h n Q := by
 cases hg : h id with
 | none =>
  refine ⟨fun hw => ?_, fun ⟨b, e, _⟩ => by cases e⟩
  obtain ⟨b, s2, he, hq⟩ := fM.1 hw
  obtain ⟨a', s1', e1, e2⟩ := M.aF he.run
  simp only [fT, BG, at0, Tr.get, hg] at e1
  cases e1
 | some b =>
  have hr : (fT id).run (at0 h n) = .ok b { at0 h n with rds := id :: (at0 h n).rds } := by simp only [fT, BG, at0, Tr.get, hg]
  rw [qJ hr rfl rfl rfl]
  constructor
  ·intro ⟨_, hw⟩; exact ⟨b, rfl, hw⟩
  ·rintro ⟨b', e, hw⟩
   injection e with e
   subst e
   exact ⟨rfl, hw⟩
theorem G0 {α : Type} {id : Nat} {b : Option Blk} {f : Unit → M α} {h : Hp} {n : Nat} {Q : α → Hp → Nat → Prop} : Wp ((⟨vO id b, wI id b⟩ : M Unit).bind f) h n Q ↔ h id ≠ none ∧ Wp (f ()) (upd h id b) n Q := by
 cases hg : h id with
 | none =>
  refine ⟨fun hw => ?_, fun ⟨e, _⟩ => absurd rfl e⟩
  obtain ⟨c, s2, he, hq⟩ := fM.1 hw
  obtain ⟨a', s1', e1, e2⟩ := M.aF he.run
  simp only [vO, at0, Tr.get, hg] at e1
  cases e1
 | some b0 =>
  have hr : (⟨vO id b, wI id b⟩ : M Unit).run (at0 h n) = .ok () { at0 h n with heap := (at0 h n).heap.put id b, wrs := id :: (at0 h n).wrs } := by simp only [vO, at0, Tr.get, hg]
  rw [qJ hr (h1 := upd h id b) (n1 := n) (funext fun j => by rw [Tr.oJ]; rfl) rfl rfl]
  constructor
  ·intro ⟨_, hw⟩; exact ⟨by simp, hw⟩
  ·rintro ⟨_, hw⟩
   exact ⟨rfl, hw⟩
theorem nZ {α : Type} {id : Nat} {b : Blk} {f : Unit → M α} {h : Hp} {n : Nat} {Q : α → Hp → Nat → Prop} : Wp ((kM id b).bind f) h n Q ↔ h id ≠ none ∧ Wp (f ()) (upd h id (some b)) n Q := G0
theorem qI {α : Type} {id : Nat} {f : Unit → M α} {h : Hp} {n : Nat} {Q : α → Hp → Nat → Prop} : Wp ((zG id).bind f) h n Q ↔ h id ≠ none ∧ Wp (f ()) (upd h id none) n Q := G0
theorem hO {α : Type} {b : Blk} {f : Nat → M α} {h : Hp} {n : Nat} {Q : α → Hp → Nat → Prop} : Wp ((pN b).bind f) h n Q ↔ Wp (f n) (upd h n (some b)) (n + 1) Q := by
 have hr : (pN b).run (at0 h n) = .ok n { at0 h n with heap := (at0 h n).heap.put n (some b), next := n + 1 } := rfl
 rw [qJ hr (h1 := upd h n (some b)) (n1 := n + 1) (funext fun j => by rw [Tr.oJ]; rfl) rfl rfl]
 exact ⟨fun h => h.2, fun h => ⟨rfl, h⟩⟩
theorem fP {α : Type} {b : Bool} {f : Unit → M α} {h : Hp} {n : Nat} {Q : α → Hp → Nat → Prop} : Wp ((ob b).bind f) h n Q ↔ b = true ∧ Wp (f ()) h n Q := by
 cases b with
 | true =>
  have hr : (ob true).run (at0 h n) = .ok () (at0 h n) := rfl
  rw [qJ hr (h1 := h) (n1 := n) rfl rfl rfl]
  simp [at0]
 | false =>
  have hr : (ob false).run (at0 h n) = .ok () { at0 h n with obs := false :: (at0 h n).obs } := rfl
  rw [qJ hr (h1 := h) (n1 := n) rfl rfl rfl]
  simp [at0]
theorem hU {α : Type} {b : Bool} {f : Bool → M α} {h : Hp} {n : Nat} {Q : α → Hp → Nat → Prop} : Wp ((ask b).bind f) h n Q ↔ Wp (f b) h n Q := by
 have hr : (ask b).run (at0 h n) = .ok b (at0 h n) := rfl
 rw [qJ hr (h1 := h) (n1 := n) rfl rfl rfl]
 exact ⟨fun h => h.2, fun h => ⟨rfl, h⟩⟩
theorem uS {α : Type} (m : M α) : m.bind M.pure = m := M.ext' fun s => by
 simp only [M.bind, mP, M.pure]
 cases m.run s <;> rfl
theorem PK {b : Blk} {h : Hp} {n : Nat} {Q : Nat → Hp → Nat → Prop} : Wp (pN b) h n Q ↔ Q n (upd h n (some b)) (n + 1) := by
 rw [← uS (pN b), hO]; simp only [aM]
theorem T0 {b : Bool} {h : Hp} {n : Nat} {Q : Unit → Hp → Nat → Prop} : Wp (ob b) h n Q ↔ b = true ∧ Q () h n := by
 rw [← uS (ob b), fP]; simp only [aM]
theorem G4 {b : Bool} {h : Hp} {n : Nat} {Q : Bool → Hp → Nat → Prop} : Wp (ask b) h n Q ↔ Q b h n := by
 rw [← uS (ask b), hU]; simp only [aM]
theorem PI {α : Type} {m : M α} {h h1 : Hp} {n n1 : Nat} {a : α} (hw : Wp m h n fun a' h' n' => a' = a ∧ h' = h1 ∧ n' = n1) {Q : α → Hp → Nat → Prop} (hq : Q a h1 n1) : Wp m h n Q :=
 dL hw fun _ _ _ ⟨e1, e2, e3⟩ => by subst e1; subst e2; subst e3; exact hq
theorem Wp.next {α : Type} {m : M α} {h : Hp} {n : Nat} {Q : α → Hp → Nat → Prop} (hw : Wp m h n Q) : Wp m h n fun a h' n' => Q a h' n' ∧ n ≤ n' := by
 obtain ⟨s, a, s', hs, he, hq⟩ := hw
 obtain ⟨_, _, _, d⟩ := m.loc _ _ _ he.run
 exact ⟨s, a, s', hs, he, hq, by rw [← hs.nx]; exact d.next⟩
end Go.Am
set_option linter.unusedSimpArgs false
set_option linter.unusedVariables false
namespace Go.Am
open Go Go.RowKit
inductive Kf where
 | seq (c : Code)
 | block (id : Nat)
 | loop (c : Code)
abbrev fC := fV → List a9 → Hp → Nat → Prop
variable {E : Env}
def eR (E : Env) (fn : FuncId) (rnd : Option Nat) (Q : fC) : List Kf → fV → List a9 → Hp → Nat → Prop
 | [], e, tm, h, n => Q e tm h n
 | .seq c :: ks, e, tm, h, n => match e with
  | .normal => Wp (aY E fn rnd c tm) h n fun r h' n' => eR E fn rnd Q ks r.1 r.2 h' n'
  | e => eR E fn rnd Q ks e tm h n
 | .block id :: ks, e, tm, h, n => match e with
  | .exit j => match j.beq id with
   | true => eR E fn rnd Q ks .normal tm h n
   | false => eR E fn rnd Q ks (.exit j) tm h n
  | e => eR E fn rnd Q ks e tm h n
 | .loop c :: ks, e, tm, h, n => match e with
  | .normal => Wp (aY E fn rnd (.loop c) tm) h n fun r h' n' => eR E fn rnd Q ks r.1 r.2 h' n'
  | e => eR E fn rnd Q ks e tm h n
def Run (E : Env) (fn : FuncId) (rnd : Option Nat) (Q : fC) (c : Code) (ks : List Kf) (tm : List a9) (h : Hp) (n : Nat) : Prop :=
 Wp (aY E fn rnd c tm) h n fun r h' n' => eR E fn rnd Q ks r.1 r.2 h' n'
def Ops (E : Env) (fn : FuncId) (rnd : Option Nat) (Q : fC) (ks : List Kf) (ops bH : List Oper) (tm : List a9) (h : Hp) (n : Nat) : Prop :=
 Wp (kY E (aY E) ops bH tm) h n fun tm h' n' => eR E fn rnd Q ks .normal (bN E fn tm) h' n'
def OpV (E : Env) (fn : FuncId) (rnd : Option Nat) (Q : fC) (ks : List Kf) (ops bH : List Oper) (d : Option Tmp) (tm : List a9) (m : M a9) (h : Hp) (n : Nat) : Prop :=
 Wp m h n fun v h' n' => Ops E fn rnd Q ks ops bH (bX tm d v) h' n'
def OpG (E : Env) (fn : FuncId) (rnd : Option Nat) (Q : fC) (ks : List Kf) (ops bH : List Oper) (d : Option Tmp) (tm : List a9) (o : Op) (want : Bool) (v : a9) (h : Hp) (n : Nat) : Prop :=
 Wp (lG want v) h n fun w h' n' => match w with
  | true => OpV E fn rnd Q ks ops bH d tm (execOp E (aY E) tm o) h' n'
  | false => Ops E fn rnd Q ks ops bH (bX tm d undef) h' n'
def If (E : Env) (fn : FuncId) (rnd : Option Nat) (Q : fC) (v : a9) (a b : Code) (ks : List Kf) (tm : List a9) (h : Hp) (n : Nat) : Prop :=
 Wp (branch v) h n fun t h' n' => match t with
  | true => Run E fn rnd Q a ks tm h' n'
  | false => Run E fn rnd Q b ks tm h' n'
variable {fn : FuncId} {rnd : Option Nat} {Q : fC} {ks : List Kf} {tm : List a9} {h : Hp} {n : Nat}
theorem AD {c : Code} {s : St} {r : fV × List a9} {s' : St} : (aY E fn rnd c tm).run s = .ok r s' ↔ (step E (aY E) fn rnd c tm).run s = .ok r s' := by
 refine ⟨fun hw => ?_, FA⟩
 obtain ⟨k, hk⟩ := pX.1 hw
 cases k with
 | zero => cases hk
 | succ k =>
  obtain ⟨L, q, hr⟩ := (xT fn rnd c tm).out (kF E k) s r s' hk
  exact hr (aY E) fun u hu => pX.2 ⟨k, q u hu⟩
theorem iR {c : Code} {Q : fV × List a9 → Hp → Nat → Prop} : Wp (aY E fn rnd c tm) h n Q ↔ Wp (step E (aY E) fn rnd c tm) h n Q := by
 constructor
 ·rintro ⟨s, a, s', h1, h2, h3⟩
  exact ⟨s, a, s', h1, ⟨AD.1 h2.run, h2.obs, h2.oc⟩, h3⟩
 ·rintro ⟨s, a, s', h1, h2, h3⟩
  exact ⟨s, a, s', h1, ⟨AD.2 h2.run, h2.obs, h2.oc⟩, h3⟩
theorem wN {α : Type} {m : M α} {Q Q' : α → Hp → Nat → Prop} (hq : ∀ a h' n', Q a h' n' ↔ Q' a h' n') : Wp m h n Q ↔ Wp m h n Q' :=
 ⟨fun hw => dL hw fun a h' n' => (hq a h' n').1, fun hw => dL hw fun a h' n' => (hq a h' n').2⟩
theorem KT : Run E fn rnd Q .skip ks tm h n ↔ eR E fn rnd Q ks .normal tm h n := by
 unfold Run; rw [iR]; simp only [step, aM]
theorem I3 {l : Nat} : Run E fn rnd Q (.label l) ks tm h n ↔ eR E fn rnd Q ks .normal tm h n := by
 unfold Run; rw [iR]; simp only [step, aM]
theorem KU {l : Nat} : Run E fn rnd Q (.exit l) ks tm h n ↔ eR E fn rnd Q ks (.exit l) tm h n := by
 unfold Run; rw [iR]; simp only [step, aM]
theorem Q4 : Run E fn rnd Q .ret ks tm h n ↔ eR E fn rnd Q ks .ret tm h n := by
 unfold Run; rw [iR]; simp only [step, aM]
theorem Q3 {a b : Code} : Run E fn rnd Q (.seq a b) ks tm h n ↔ Run E fn rnd Q a (.seq b :: ks) tm h n := by
 unfold Run; rw [iR]; simp only [step, dX]
 refine wN fun r h' n' => ?_
 obtain ⟨e, tm'⟩ := r
 cases e <;> simp only [eR, aM]
theorem I2 {a : Code} : Run E fn rnd Q (.scope a) ks tm h n ↔ Run E fn rnd Q a ks tm h n := by
 unfold Run; rw [iR]; simp only [step]
theorem I4 {id : Nat} {a : Code} (hn : kP E.jR fn id = true) : Run E fn rnd Q (.block id a) ks tm h n ↔ Run E fn rnd Q a (.block id :: ks) tm h n := by
 unfold Run; rw [iR]; simp only [step, sI hn, dX]
 refine wN fun r h' n' => ?_
 obtain ⟨e, tm'⟩ := r
 cases e with
 | normal => simp only [eR, aM]
 | ret => simp only [eR, aM]
 | exit j => simp only [eR]; cases j.beq id <;> simp only [aM]
theorem I5 {id : Nat} {a : Code} {act : List a9 → M (fV × List a9)} (hk : gQ E.jR fn id (.block id a) = some act) (hw : Wp (act tm) h n fun r h' n' => eR E fn rnd Q ks r.1 r.2 h' n') : Run E fn rnd Q (.block id a) ks tm h n := by
 unfold Run; rw [iR]; simp only [step, hk]; exact hw
theorem zS {id : Nat} {ops : Array Oper} {act : List a9 → M (fV × List a9)} (hk : gQ E.rV fn id (.region id ops true) = some act) (hw : Wp (act tm) h n fun r h' n' => eR E fn rnd Q ks r.1 r.2 h' n') : Run E fn rnd Q (.region id ops true) ks tm h n := by
 unfold Run; rw [iR]; simp only [step, hk]; exact hw
theorem cY {a : Code} : Run E fn rnd Q (.loop a) ks tm h n ↔ Run E fn rnd Q a (.loop a :: ks) tm h n := by
 unfold Run; rw [iR]; simp only [step, dX]
 refine wN fun r h' n' => ?_
 obtain ⟨e, tm'⟩ := r
 cases e <;> simp only [eR, aM]
theorem KV {c : Operand} {a b : Code} : Run E fn rnd Q (.cond c a b) ks tm h n ↔ If E fn rnd Q (opd tm c) a b ks tm h n := by
 unfold Run If; rw [iR]; simp only [step, dX]
 refine wN fun t h' n' => ?_
 cases t <;> rfl
theorem EE {id : Nat} {ops : Array Oper} : Run E fn rnd Q (.region id ops false) ks tm h n ↔ Ops E fn rnd Q ks ops.toList ops.toList tm h n := by
 unfold Run Ops; rw [iR]; simp only [step, dX, aM]
theorem if_true {a b : Code} : If E fn rnd Q (.bool true) a b ks tm h n ↔ Run E fn rnd Q a ks tm h n := by
 simp only [If, branch, G4]
theorem if_false {a b : Code} : If E fn rnd Q (.bool false) a b ks tm h n ↔ Run E fn rnd Q b ks tm h n := by
 simp only [If, branch, G4]
theorem MW {a b : Code} : If E fn rnd Q (.gY true) a b ks tm h n ↔ Run E fn rnd Q a ks tm h n := by
 simp only [If, branch, aM]
theorem IT {a b : Code} : If E fn rnd Q (.gY false) a b ks tm h n ↔ Run E fn rnd Q b ks tm h n := by
 simp only [If, branch, aM]
theorem NZ {c : Code} : eR E fn rnd Q (.seq c :: ks) .normal tm h n ↔ Run E fn rnd Q c ks tm h n := Iff.rfl
theorem BO {c : Code} : eR E fn rnd Q (.seq c :: ks) .ret tm h n ↔ eR E fn rnd Q ks .ret tm h n := Iff.rfl
theorem zL {c : Code} {j : Nat} : eR E fn rnd Q (.seq c :: ks) (.exit j) tm h n ↔ eR E fn rnd Q ks (.exit j) tm h n := Iff.rfl
theorem FG {i : Nat} : eR E fn rnd Q (.block i :: ks) .normal tm h n ↔ eR E fn rnd Q ks .normal tm h n := Iff.rfl
theorem yB {i : Nat} : eR E fn rnd Q (.block i :: ks) .ret tm h n ↔ eR E fn rnd Q ks .ret tm h n := Iff.rfl
theorem vU {i : Nat} : eR E fn rnd Q (.block i :: ks) (.exit i) tm h n ↔ eR E fn rnd Q ks .normal tm h n := by
 simp only [eR, Nat.beq_refl]
theorem JD {c : Code} : eR E fn rnd Q (.loop c :: ks) .normal tm h n ↔ Run E fn rnd Q (.loop c) ks tm h n := Iff.rfl
theorem zM {c : Code} : eR E fn rnd Q (.loop c :: ks) .ret tm h n ↔ eR E fn rnd Q ks .ret tm h n := Iff.rfl
theorem yA {c : Code} {j : Nat} : eR E fn rnd Q (.loop c :: ks) (.exit j) tm h n ↔ eR E fn rnd Q ks (.exit j) tm h n := Iff.rfl
theorem O0 {e : fV} : eR E fn rnd Q [] e tm h n ↔ Q e tm h n := Iff.rfl
variable {ops bH : List Oper} {d : Option Tmp}
theorem QC : Ops E fn rnd Q ks ops [] tm h n ↔ eR E fn rnd Q ks .normal (bN E fn tm) h n := by
 unfold Ops; simp only [kY, aM]
theorem LU {op : Op} {ty : TypeId} {pos : String} {af : Array Edge} : Ops E fn rnd Q ks ops (⟨d, op, ty, pos, af, none⟩ :: bH) tm h n ↔ OpV E fn rnd Q ks ops bH d tm (execOp E (aY E) tm op) h n := by
 unfold Ops OpV; simp only [kY, IE, opV, wanted, aB, dX, aM]; rfl
def XJ (E : Env) (fn : FuncId) (rnd : Option Nat) (Q : fC) (ks : List Kf) (ops bH : List Oper) (d : Option Tmp) (tm : List a9) (o : Op) (want : Bool) (g : Option Oper) (h : Hp) (n : Nat) : Prop :=
 match g.bind (·.dst) with
 | some g => OpG E fn rnd Q ks ops bH d tm o want (nth tm g undef) h n
 | none => Ops E fn rnd Q ks ops bH (bX tm d undef) h n
theorem IA {op : Op} {ty : TypeId} {pos : String} {af : Array Edge} {j : Nat} {want : Bool} :
  Ops E fn rnd Q ks ops (⟨d, op, ty, pos, af, some (j, want)⟩ :: bH) tm h n ↔ XJ E fn rnd Q ks ops bH d tm op want ops[j]? h n := by
 unfold XJ
 cases hg : (ops[j]?).bind (·.dst) with
 | none =>
  unfold Ops; simp only [kY, IE, opV, wanted, hg, dX, aM]
 | some g =>
  unfold Ops OpG; simp only [kY, IE, opV, wanted, hg, dX, aM]
  refine wN fun w h' n' => ?_
  cases w <;> simp only [aM, Ops, OpV]
theorem IB {op : Op} {want : Bool} {g : Tmp} {o2 : Op} {ty : TypeId} {pos : String} {af : Array Edge} {gg : Option (Nat × Bool)} :
  XJ E fn rnd Q ks ops bH d tm op want (some ⟨some g, o2, ty, pos, af, gg⟩) h n ↔ OpG E fn rnd Q ks ops bH d tm op want (nth tm g undef) h n := Iff.rfl
theorem LX {op : Op} {want t : Bool} : OpG E fn rnd Q ks ops bH d tm op want (.bool t) h n ↔ OpG E fn rnd Q ks ops bH d tm op want (.gY t) h n := by
 simp only [OpG, lG, hU, aM]
theorem LV {op : Op} : OpG E fn rnd Q ks ops bH d tm op true (.gY true) h n ↔ OpV E fn rnd Q ks ops bH d tm (execOp E (aY E) tm op) h n := by
 simp only [OpG, lG, aM]; rfl
theorem US {op : Op} : OpG E fn rnd Q ks ops bH d tm op false (.gY false) h n ↔ OpV E fn rnd Q ks ops bH d tm (execOp E (aY E) tm op) h n := by
 simp only [OpG, lG, aM]; rfl
theorem LW {op : Op} : OpG E fn rnd Q ks ops bH d tm op true (.gY false) h n ↔ Ops E fn rnd Q ks ops bH (bX tm d undef) h n := by
 simp only [OpG, lG, aM]; rfl
theorem UR {op : Op} : OpG E fn rnd Q ks ops bH d tm op false (.gY true) h n ↔ Ops E fn rnd Q ks ops bH (bX tm d undef) h n := by
 simp only [OpG, lG, aM]; rfl
theorem zX {op : Op} {want : Bool} {l : List a9} : OpG E fn rnd Q ks ops bH d tm op want (.tup l) h n ↔ Ops E fn rnd Q ks ops bH (bX tm d undef) h n := by
 simp only [OpG, lG, aM]
theorem lC {v : a9} : OpV E fn rnd Q ks ops bH d tm (M.pure v) h n ↔ Ops E fn rnd Q ks ops bH (bX tm d v) h n := by
 simp only [OpV, aM]
theorem LR {w : String} : OpV E fn rnd Q ks ops bH d tm (bF w) h n ↔ False := by
 simp only [OpV, PL]
theorem B0 {id : Nat} {f : Blk → M a9} : OpV E fn rnd Q ks ops bH d tm ((fT id).bind f) h n ↔ ∃ b, h id = some b ∧ OpV E fn rnd Q ks ops bH d tm (f b) h n := by
 simp only [OpV, fW]
theorem QB {id : Nat} {b : Blk} {f : Unit → M a9} : OpV E fn rnd Q ks ops bH d tm ((kM id b).bind f) h n ↔ h id ≠ none ∧ OpV E fn rnd Q ks ops bH d tm (f ()) (upd h id (some b)) n := by
 simp only [OpV, nZ]
theorem LQ {id : Nat} {f : Unit → M a9} : OpV E fn rnd Q ks ops bH d tm ((zG id).bind f) h n ↔ h id ≠ none ∧ OpV E fn rnd Q ks ops bH d tm (f ()) (upd h id none) n := by
 simp only [OpV, qI]
theorem oD {b : Blk} {f : Nat → M a9} : OpV E fn rnd Q ks ops bH d tm ((pN b).bind f) h n ↔ OpV E fn rnd Q ks ops bH d tm (f n) (upd h n (some b)) (n + 1) := by
 simp only [OpV, hO]
theorem uH {b : Bool} {f : Unit → M a9} : OpV E fn rnd Q ks ops bH d tm ((ob b).bind f) h n ↔ b = true ∧ OpV E fn rnd Q ks ops bH d tm (f ()) h n := by
 simp only [OpV, fP]
theorem B1 {b : Bool} {f : Bool → M a9} : OpV E fn rnd Q ks ops bH d tm ((ask b).bind f) h n ↔ OpV E fn rnd Q ks ops bH d tm (f b) h n := by
 simp only [OpV, hU]
theorem LS {m : M a9} {Q1 : a9 → Hp → Nat → Prop} (hw : Wp m h n Q1) (hq : ∀ v h' n', n ≤ n' → Q1 v h' n' → Ops E fn rnd Q ks ops bH (bX tm d v) h' n') : OpV E fn rnd Q ks ops bH d tm m h n :=
 dL hw.next fun a h' n' hh => hq a h' n' hh.2 hh.1
theorem dA {m : M a9} {v : a9} {h1 : Hp} {n1 : Nat} (hw : Wp m h n fun v' h' n' => v' = v ∧ h' = h1 ∧ n' = n1) (hq : Ops E fn rnd Q ks ops bH (bX tm d v) h1 n1) : OpV E fn rnd Q ks ops bH d tm m h n :=
 PI hw hq
theorem aZ {f : FuncId} {args : List a9} {i : FI} {Q : a9 → Hp → Nat → Prop} (hf : (E.funcs.find f).f.beq f = true) (hi : (E.funcs.find f).i = i)
  (hr : Run E f none (fun e tm h' n' => (match e with | .exit _ => False | _ => True) ∧ Wp (dJ E tm i.results) h' n' Q) i.body [] (args ++ List.replicate (i.ntmps - args.length) undef) h n) :
  Wp (bM E (aY E) f args) h n Q := by
 unfold bM
 rw [hf]
 simp only [hi, dX]
 refine dL hr fun r h' n' hq => ?_
 obtain ⟨e, tm'⟩ := r
 simp only [eR] at hq
 cases e with
 | exit j => exact hq.1.elim
 | normal => exact hq.2
 | ret => exact hq.2
theorem calls_of {f : FuncId} {args : List a9} {xs : Array Value} {w : World} {Q : a9 → Hp → Nat → Prop} (hw : Wp (bM E (aY E) f args) (fun _ => none) 0 Q) (hx : RL (fun _ => none) (sB w) args xs) :
  Calls E.P f xs w fun e w' => ∃ v h n x ρ', Q v h n ∧ e = .returned x ∧ R ρ' (sB w) v x ∧ Below w.heap.size w w' := by
 obtain ⟨v, s', he, hq⟩ := fM.1 hw
 obtain ⟨k, hk⟩ := (A9 f args).fuel he.run
 have ho : cF s' := by
  obtain ⟨o, e1, e2⟩ := he.obs
  unfold cF
  rw [e1]
  simpa [at0] using e2
 refine (RR hk ho (fun _ => rfl) hx).mono fun e w' hh => ?_
 obtain ⟨x, ρ', h1, h2, h3⟩ := hh
 exact ⟨v, _, _, x, ρ', hq, h1, h2, h3⟩
end Go.Am
set_option linter.unusedSimpArgs false
set_option linter.unusedVariables false
set_option linter.defProp false
namespace Go.Am
open Go
variable {E : Env} {fn : FuncId} {rnd : Option Nat} {Q : fC} {ks : List Kf} {tm : List a9} {h : Hp} {n : Nat} {ops bH : List Oper} {d : Option Tmp}
theorem kV {m : M a9} {h1 : Hp} {n1 : Nat} {v : a9} (hw : Wp m h n fun v' h' n' => v' = v ∧ h' = h1 ∧ n' = n1) :
  ∀ (E : Env) (fn : FuncId) (rnd : Option Nat) (Q : fC) (ks : List Kf) (ops bH : List Oper) (d : Option Tmp) (tm : List a9), OpV E fn rnd Q ks ops bH d tm m h n ↔ Ops E fn rnd Q ks ops bH (bX tm d v) h1 n1 := by
 intro E fn rnd Q ks ops bH d tm
 refine ⟨fun hq => ?_, fun hq => dA hw hq⟩
 obtain ⟨a, s', he, e1, e2, e3⟩ := fM.1 hw
 obtain ⟨a2, s2, he2, hq2⟩ := fM.1 hq
 have := he.run.symm.trans he2.run
 injection this with q1 q2
 subst q1; subst q2; subst e1; subst e2; subst e3
 exact hq2
theorem w64 {n : Int} (h1 : -9223372036854775808 ≤ n) (h2 : n ≤ 9223372036854775807) : IntKind.i64.wrap n = n := IntWalk.i64_in n ⟨h1, h2⟩
theorem aj3 {n : Int} (h1 : 0 ≤ n) (h2 : n ≤ 18446744073709551615) : IntKind.u64.wrap n = n := IntWalk.u64_in n ⟨h1, h2⟩
theorem nc0 : ((0 : Nat) : Int) = 0 := rfl
theorem nc1 : ((1 : Nat) : Int) = 1 := rfl
theorem cC (a b : Int) : (a == b) = decide (a = b) := rfl
theorem cB (a b : Int) : (a != b) = decide (¬ a = b) := by by_cases h : a = b <;> simp [h]
theorem cA (a b : List UInt8) : (a == b) = decide (a = b) := by by_cases h : a = b <;> simp [h]
theorem nK {c : Bool} {a b : a9} : OpV E fn rnd Q ks ops bH d tm (aT (.bool c) a b) h n ↔ Ops E fn rnd Q ks ops bH (bX tm d (match c with | true => a | false => b)) h n := by
 cases c <;> simp only [aT, branch, B1, lC]
def bP := And.intro @Q3 (And.intro @EE (And.intro @KT (And.intro @I3 (And.intro @KU (And.intro @Q4 (And.intro @I2 (And.intro @I4 (And.intro @KV
 (And.intro @if_true (And.intro @if_false (And.intro @MW (And.intro @IT (And.intro @NZ (And.intro @BO (And.intro @zL (And.intro @FG (And.intro @yB
 (And.intro @vU (And.intro @JD (And.intro @zM (And.intro @yA (And.intro @O0 (And.intro @QC (And.intro @LU (And.intro @IA (And.intro @IB
 (And.intro @LX (And.intro @LV (And.intro @US (And.intro @LW (And.intro @UR (And.intro @zX (And.intro @lC (And.intro @LR (And.intro @B0 (And.intro @QB
 (And.intro @LQ (And.intro @oD (And.intro @uH (And.intro @B1 (And.intro @aB (And.intro @JJ @bind_assoc))))))))))))))))))))))))))))))))))))))))))
end Go.Am
set_option linter.unusedSimpArgs false
set_option linter.unusedVariables false
set_option linter.defProp false
namespace Go.Am
open Go Go.RowKit
variable {E : Env} {fn : FuncId} {rnd : Option Nat} {Q : fC} {ks : List Kf} {tm : List a9} {h : Hp} {n : Nat} {ops bH : List Oper} {d : Option Tmp}
theorem rl_list {ρ : Ren} {m : Mem} (l : List a9) (xs : Array Value) (hv : RV ρ m l xs.toList) : RL ρ m l xs := by
 have := hv.Z0
 simpa using this
def u8 (b : UInt8) : a9 := .int .u8 (b.toNat : Int)
inductive Bytes (h : Hp) : a9 → List UInt8 → Prop
 | aV : Bytes h .aV []
 | isl (f : Nat → a9) (off : Nat) (l : List UInt8) (hf : ∀ j (hj : j < l.length), f (off + j) = u8 l[j]) : Bytes h (.isl f 1 off l.length) l
 | sl (id off : Nat) (cap : Option Nat) (c : bK) (e : TypeId) (l : List UInt8) (hh : h id = some (.row c e)) (hs : off + l.length ≤ c.size) (hc : ∀ j (hj : j < l.length), c.at (off + j) = u8 l[j]) : Bytes h (.sl id off l.length cap 1) l
theorem Bytes.len {v : a9} {l : List UInt8} (hb : Bytes h v l) : lenOf v = M.pure l.length := by
 cases hb <;> rfl
theorem Bytes.dD {v : a9} {l : List UInt8} (hb : Bytes h v l) {t : TypeId} {ts : List TypeId} {e : TypeId} (ht : und E t = M.pure (.slice e)) : dD E (t :: ts) v = M.pure (.int .i64 l.length) := by
 cases hb <;> simp only [Am.dD, ht, aB, lenOf, List.length_nil] <;> rfl
def dB (i : Nat) : a9 → a9
 | .isl g sz off len => .ip g (off + len * sz) (off + i)
 | .sl id off _ _ _ => .ptr id (off + i)
 | v => v
theorem vJ (f : Nat → a9) (off : Nat) : cellsOf f off 1 = [f off] := rfl
theorem bK.vW {xs : List a9} {i : Nat} (hi : i < xs.length) : (bK.l xs).at i = xs[i] := by
 show nth xs i .aA = xs[i]
 induction xs generalizing i with
 | nil => simp at hi
 | cons a xs ih =>
  cases i with
  | zero => rfl
  | succ i => simp only [nth, List.getElem_cons_succ]; exact ih (by simpa using hi)
theorem bK.mS {c : bK} {o : Nat} (ho : o < c.size) : c.sub o 1 = [c.at o] := by
 cases c with
 | f m g => rfl
 | l xs =>
  rw [bK.vW ho]
  show (xs.drop o).take 1 = [xs[o]]
  rw [List.drop_eq_getElem_cons ho]; rfl
theorem Bytes.load {v : a9} {l : List UInt8} (hb : Bytes h v l) {e : TypeId} {i : TI} (he : ti E e = M.pure i) (ha : dT i.desc = false) {j : Nat} (hj : j < l.length) :
  OpV E fn rnd Q ks ops bH d tm (load E e (dB j v)) h n ↔ Ops E fn rnd Q ks ops bH (bX tm d (u8 l[j])) h n := by
 cases hb with
 | aV => simp at hj
 | isl f off l hf =>
  simp only [Am.load, he, ha, aB, dB, aW, bind_assoc, uH, vJ, dK, lC, hf j hj]
  simp; omega
 | sl id off cap c e l hh hs hc =>
  simp only [Am.load, he, ha, aB, dB, aW, bind_assoc, B0, hh, Option.some.injEq, exists_eq_left', cT, uH]
  rw [bK.mS (by omega), hc j hj]
  simp only [dK, lC]
  simp; omega
theorem qZ (l : List UInt8) : (l.map u8).all pT = true := by
 induction l with
 | nil => rfl
 | cons a l ih => simp [u8, pT, ih]
theorem kJ (l : List UInt8) : (l.map u8).map kK = l := by
 induction l with
 | nil => rfl
 | cons a l ih => simp [u8, kK, ih]
theorem jQ (f : Nat → a9) : ∀ (k off : Nat) (l : List a9), l.length = k → (∀ j (hj : j < l.length), f (off + j) = l[j]) → cellsOf f off k = l := by
 intro k
 induction k with
 | zero => intro off l hl _; cases l with | nil => rfl | cons a l => simp at hl
 | succ k ih =>
  intro off l hl hf
  cases l with
  | nil => simp at hl
  | cons a l =>
   have h0 := hf 0 (by simp)
   simp only [cellsOf, Nat.add_zero, List.getElem_cons_zero] at h0 ⊢
   rw [h0, ih (off + 1) l (by simpa using hl) (fun j hj => by
    have := hf (j + 1) (by simpa using hj)
    rw [List.getElem_cons_succ] at this
    rw [← this]; congr 1; omega)]
theorem bK.pE {c : bK} {off : Nat} {l : List a9} (hs : off + l.length ≤ c.size) (hc : ∀ j (hj : j < l.length), c.at (off + j) = l[j]) : c.sub off l.length = l := by
 cases c with
 | f m g => exact jQ g _ off l rfl hc
 | l xs =>
  show (xs.drop off).take l.length = l
  apply List.ext_getElem
  ·simp [bK.size] at hs ⊢; omega
  ·intro j h1 h2
   rw [List.getElem_take, List.getElem_drop]
   have := hc j h2
   rw [bK.vW (by simp [bK.size] at hs; omega)] at this
   exact this
theorem Bytes.cells {α : Type} {v : a9} {l : List UInt8} (hb : Bytes h v l) {f : List a9 → M α} {Q : α → Hp → Nat → Prop} : Wp ((dQ 1 l.length v).bind f) h n Q ↔ Wp (f (l.map u8)) h n Q := by
 cases hb with
 | aV => simp only [dQ, bind_assoc, aB, fP, List.length_nil, List.map_nil]; simp
 | isl g off l hf =>
  simp only [dQ, bE, bind_assoc, aB, fP, Nat.mul_one, show (Nat.beq 1 1) = true from rfl]
  rw [jQ g l.length off (l.map u8) (by simp) (fun j hj => by rw [hf j (by simpa using hj)]; simp)]
  simp
 | sl id off cap c e l hh hs hc =>
  simp only [dQ, bE, bind_assoc, fW, hh, Option.some.injEq, exists_eq_left', cT, fP, Nat.mul_one, show (Nat.beq 1 1) = true from rfl]
  have := bK.pE (c := c) (off := off) (l := l.map u8) (by simpa using hs) (fun j hj => by rw [hc j (by simpa using hj)]; simp)
  simp only [List.length_map] at this
  simp only [bind_assoc, fP, aB, this]
  simp [hs]
theorem Bytes.str {v : a9} {l : List UInt8} (hb : Bytes h v l) {t t2 e : TypeId} (ht : und E t = M.pure (.slice e)) (h2 : und E t2 = M.pure .string) (he : und E e = M.pure (.int .u8)) :
  OpV E fn rnd Q ks ops bH d tm (convert E t t2 v) h n ↔ Ops E fn rnd Q ks ops bH (bX tm d (.str l)) h n := by
 have key : convert E t t2 v = gP E e v := by
  cases hb <;> simp only [convert, ht, h2, aB]
 rw [key]
 simp only [gP, he, aB, oG, hb.len, OpV]
 rw [hb.cells]
 simp only [fP, qZ, true_and, aM, kJ]
theorem zO (l : List UInt8) : gK l = l.map u8 := by
 induction l with
 | nil => rfl
 | cons a l ih => simp [gK, ih, u8]
theorem Bytes.vE {l : List UInt8} {e : TypeId} {cap : Option Nat} (hh : h n = some (.row (.l (l.map u8)) e)) : Bytes h (.sl n 0 l.length cap 1) l :=
 .sl n 0 cap _ e l hh (by simp [bK.size]) (fun j hj => by rw [Nat.zero_add, bK.vW (by simpa using hj)]; simp)
def Old (h h' : Hp) (n : Nat) : Prop := ∀ j, j < n → h' j = h j
def qH (n : Nat) : a9 → Prop
 | .sl id _ _ _ _ => id < n
 | _ => True
theorem Bytes.old {v : a9} {l : List UInt8} {h' : Hp} (hb : Bytes h v l) (hv : qH n v) (ho : Old h h' n) : Bytes h' v l := by
 cases hb with
 | aV => exact .aV
 | isl f off l hf => exact .isl f off l hf
 | sl id off cap c e l hh hs hc => exact .sl id off cap c e l (by rw [ho id hv]; exact hh) hs hc
theorem Old.refl (h : Hp) (n : Nat) : Old h h n := fun _ _ => rfl
theorem Old.trans {h1 h2 h3 : Hp} {n m : Nat} (a : Old h1 h2 n) (b : Old h2 h3 m) (hm : n ≤ m) : Old h1 h3 n := fun j hj => (b j (by omega)).trans (a j hj)
theorem Old.upd {h1 h2 : Hp} {n i : Nat} {b : Option Blk} (a : Old h1 h2 n) (hi : n ≤ i) : Old h1 (upd h2 i b) n := fun j hj => by rw [aG _ _ (by omega)]; exact a j hj
theorem qH.mono {n m : Nat} {v : a9} (hv : qH n v) (hm : n ≤ m) : qH m v := by
 cases v <;> simp only [qH] at hv ⊢ <;> omega
end Go.Am
set_option linter.unusedSimpArgs false
set_option linter.unusedVariables false
set_option linter.defProp false
namespace Go.Am
open Go Go.RowKit
variable {E : Env} {fn : FuncId} {rnd : Option Nat} {Q : fC} {ks : List Kf} {tm : List a9} {h : Hp} {n : Nat} {ops bH : List Oper} {d : Option Tmp}
inductive Own (h : Hp) (n : Nat) (e : TypeId) (sz : Nat) : a9 → Nat → List a9 → Prop
 | nil : Own h n e sz .aV 0 []
 | sl (id cnt : Nat) (xs : List a9) (hid : id < n) (hh : h id = some (.row (.l xs) e)) (hl : xs.length = cnt * sz) : Own h n e sz (.sl id 0 cnt none sz) cnt xs
 | VF (id cnt : Nat) (xs : List a9) (e' : TypeId) (hid : id < n) (hh : h id = some (.row (.l xs) e')) (hl : xs.length = cnt * sz) : Own h n e sz (.sl id 0 cnt (some cnt) sz) cnt xs
def bB : a9 → Option Nat
 | .sl id _ _ _ _ => some id
 | _ => none
theorem Own.len {e : TypeId} {sz cnt : Nat} {v : a9} {xs : List a9} (ho : Own h n e sz v cnt xs) : lenOf v = M.pure cnt := by cases ho <;> rfl
theorem Own.length {e : TypeId} {sz cnt : Nat} {v : a9} {xs : List a9} (ho : Own h n e sz v cnt xs) : xs.length = cnt * sz := by cases ho with | nil => simp | sl id cnt xs hid hh hl => exact hl | VF id cnt xs e' hid hh hl => exact hl
theorem Own.aS {e : TypeId} {sz cnt : Nat} {v : a9} {xs : List a9} {h' : Hp} {n' : Nat} (ho : Own h n e sz v cnt xs) (hn : n ≤ n') (hk : ∀ j, bB v = some j → h' j = h j) : Own h' n' e sz v cnt xs := by
 cases ho with
 | nil => exact .nil
 | sl id cnt xs hid hh hl => exact .sl id cnt xs (by omega) (by rw [hk id rfl]; exact hh) hl
 | VF id cnt xs e' hid hh hl => exact .VF id cnt xs e' (by omega) (by rw [hk id rfl]; exact hh) hl
theorem iL {a b : Nat} (hh : ¬ a ≤ b) : a.ble b = false := by
 cases hc : a.ble b with
 | false => rfl
 | true => exact absurd (Nat.le_of_ble_eq_true hc) hh
theorem dS {a b : Nat} (hh : a ≤ b) : a.ble b = true := Nat.ble_eq_true_of_le hh
theorem kU {a b : Nat} (hh : ¬ a = b) : a.beq b = false := by
 cases hc : a.beq b with
 | false => rfl
 | true => exact absurd (Nat.eq_of_beq_eq_true hc) hh
theorem wP (l : List UInt8) : (l.map u8).all bI = true := by
 induction l with
 | nil => rfl
 | cons a l ih => simp [u8, bI, ih]
theorem lS {f : Operand} {ps : Array Tmp} {a b : Code} {g : FuncId} {first cap : List a9} (hf : opd tm f = .fn (.func g) first cap) (hg : (E.funcs.find g).f.beq g = true)
  (hw : Wp (gX E (aY E) g (first ++ [a9.fn (.yield n) [] []] ++ cap)) (upd h n (some (.loop { state := .ready, pending := none, fn := fn, tmps := tm, params := ps.toList, assign := a, body := b }))) (n + 1) fun v h' n' =>
   ∃ l, h' n = some (.loop l) ∧ l.state ≠ .busy ∧ ∃ e, (match l.pending with | none => e = .normal | some .ret => e = .ret | some (.exit j) => e = .exit j | _ => False) ∧
    eR E fn none Q ks e tm (upd h' n (some (.loop { l with state := .exhausted }))) n') :
  Run E fn none Q (.rangeFunc f ps a b) ks tm h n := by
 unfold Run; rw [iR]
 simp only [step, hf, hg, aB, dX, PK]
 refine dL hw fun v h' n' ⟨l, hl, hb, e, he, hk⟩ => ?_
 simp only [EG, fW, hl, Option.some.injEq, exists_eq_left', cW]
 cases hs : l.state with
 | busy => exact absurd hs hb
 | _ =>
  simp only [nZ, hl, ne_eq, reduceCtorEq, not_false_eq_true, true_and]
  cases hp : l.pending with
  | none => rw [hp] at he; simp only at he; subst he; rw [hp] at hk; simp only [aM]; exact hk
  | some c =>
   rw [hp] at he
   cases c with
   | ret => simp only at he; subst he; rw [hp] at hk; simp only [aM]; exact hk
   | exit j => simp only at he; subst he; rw [hp] at hk; simp only [aM]; exact hk
   | _ => exact he.elim
def c8 : Code → List Code
 | .seq a b => c8 a ++ c8 b
 | .cond _ a b => c8 a ++ c8 b
 | .block _ c => c8 c
 | .loop c => c :: c8 c
 | .scope c => c8 c
 | .rangeFunc _ _ a b => c8 a ++ c8 b
 | _ => []
def cZ : Code → List (Code × Code)
 | .seq a b => cZ a ++ cZ b
 | .cond _ a b => cZ a ++ cZ b
 | .block _ c => cZ c
 | .loop c => cZ c
 | .scope c => cZ c
 | .rangeFunc _ _ a b => (a, b) :: (cZ a ++ cZ b)
 | _ => []
end Go.Am
set_option linter.unusedSimpArgs false
set_option linter.unusedVariables false
set_option linter.defProp false
namespace Go.Am
open Go Go.RowKit
variable {E : Env} {fn : FuncId} {rnd : Option Nat} {Q : fC} {ks : List Kf} {tm : List a9} {h : Hp} {n : Nat} {ops bH : List Oper} {d : Option Tmp}
theorem VA (b : Bool) : (a9.bool b).cells = [.bool b] ∧ bI (.bool b) = true ∧ dV (.bool b) = false := ⟨rfl, rfl, rfl⟩
theorem VB (b : Bool) : (a9.gY b).cells = [.gY b] ∧ bI (.gY b) = true ∧ dV (.gY b) = false := ⟨rfl, rfl, rfl⟩
theorem Z5 (k : IntKind) (x : Int) : (a9.int k x).cells = [.int k x] ∧ bI (.int k x) = true ∧ dV (.int k x) = false := ⟨rfl, rfl, rfl⟩
theorem Z1 (l : List UInt8) : (a9.str l).cells = [.str l] ∧ bI (.str l) = true ∧ dV (.str l) = false := ⟨rfl, rfl, rfl⟩
theorem V6  : (a9.dP ).cells = [.dP ] ∧ bI (.dP ) = true ∧ dV (.dP ) = false := ⟨rfl, rfl, rfl⟩
theorem V5  : (a9.aV ).cells = [.aV ] ∧ bI (.aV ) = true ∧ dV (.aV ) = false := ⟨rfl, rfl, rfl⟩
theorem V7  : (a9.lJ ).cells = [.lJ ] ∧ bI (.lJ ) = true ∧ dV (.lJ ) = false := ⟨rfl, rfl, rfl⟩
theorem V9  : (a9.dI ).cells = [.dI ] ∧ bI (.dI ) = true ∧ dV (.dI ) = false := ⟨rfl, rfl, rfl⟩
theorem V8  : (a9.zE ).cells = [.zE ] ∧ bI (.zE ) = true ∧ dV (.zE ) = false := ⟨rfl, rfl, rfl⟩
theorem Z6  : (a9.emp ).cells = [.emp ] ∧ bI (.emp ) = true ∧ dV (.emp ) = false := ⟨rfl, rfl, rfl⟩
theorem Z2 (i o : Nat) : (a9.ptr i o).cells = [.ptr i o] ∧ bI (.ptr i o) = true ∧ dV (.ptr i o) = false := ⟨rfl, rfl, rfl⟩
theorem al5 (i o n : Nat) (c : Option Nat) (s : Nat) : (a9.sl i o n c s).cells = [.sl i o n c s] ∧ bI (.sl i o n c s) = true ∧ dV (.sl i o n c s) = false := ⟨rfl, rfl, rfl⟩
theorem al6 (f : Nat → a9) (n o : Nat) : (a9.ip f n o).cells = [.ip f n o] ∧ bI (.ip f n o) = true ∧ dV (.ip f n o) = false := ⟨rfl, rfl, rfl⟩
theorem Z4 (f : Nat → a9) (s o n : Nat) : (a9.isl f s o n).cells = [.isl f s o n] ∧ bI (.isl f s o n) = true ∧ dV (.isl f s o n) = false := ⟨rfl, rfl, rfl⟩
theorem al7 (f : Fn) (a b : List a9) : (a9.fn f a b).cells = [.fn f a b] ∧ bI (.fn f a b) = true ∧ dV (.fn f a b) = false := ⟨rfl, rfl, rfl⟩
theorem Z3 (i : Nat) : (a9.map i).cells = [.map i] ∧ bI (.map i) = true ∧ dV (.map i) = false := ⟨rfl, rfl, rfl⟩
theorem Z7 (l : List a9) : (a9.agg l).cells = l ∧ dV (.agg l) = false := ⟨rfl, rfl⟩
def cel := (And.intro @VA (And.intro @VB (And.intro @Z5 (And.intro @Z1 (And.intro @V6 (And.intro @V5 (And.intro @V7 (And.intro @V9 (And.intro @V8 (And.intro @Z6 (And.intro @Z2 (And.intro @al5 (And.intro @al6 (And.intro @Z4 (And.intro @al7 (And.intro @Z3 @Z7))))))))))))))))
theorem Own.kind {e : TypeId} {sz cnt : Nat} {v : a9} {xs : List a9} (ho : Own h n e sz v cnt xs) : v.cells = [v] ∧ bI v = true ∧ dV v = false := by cases ho <;> exact ⟨rfl, rfl, rfl⟩
theorem Bytes.kind {v : a9} {l : List UInt8} (hb : Bytes h v l) : v.cells = [v] ∧ bI v = true ∧ dV v = false := by cases hb <;> exact ⟨rfl, rfl, rfl⟩
theorem aN {i j : Nat} : eR E fn rnd Q (.block i :: ks) (.exit j) tm h n ↔ (match j.beq i with | true => eR E fn rnd Q ks .normal tm h n | false => eR E fn rnd Q ks (.exit j) tm h n) := Iff.rfl
theorem cQ {op : Op} {want : Bool} : OpG E fn rnd Q ks ops bH d tm op want undef h n ↔ Ops E fn rnd Q ks ops bH (bX tm d undef) h n := zX
theorem bC {rec : Rec} (g : FuncId) (first cap args : List a9) : kG E rec (.fn (.func g) first cap) args = gX E rec g (first ++ args ++ cap) := rfl
end Go.Am
set_option linter.unusedSimpArgs false
set_option linter.unusedVariables false
set_option linter.defProp false
namespace Go.Am
open Go Go.RowKit
variable {E : Env} {fn : FuncId} {rnd : Option Nat} {Q : fC} {ks : List Kf} {tm : List a9} {h : Hp} {n : Nat} {ops bH : List Oper} {d : Option Tmp}
def Fe (E : Env) (fn : FuncId) (rnd : Option Nat) (Q : fC) (ks : List Kf) (ops : List Oper) (j : Nat) (bH : List Oper) (tm : List a9) (fs : List gN) (h : Hp) (n : Nat) : Prop :=
 Wp (jK E (aY E) ops j bH tm fs) h n fun r h' n' => dW (eF [] ops) r.2 = true ∧ eR E fn rnd Q ks .normal (bN E fn r.1) h' n'
def FeV (E : Env) (fn : FuncId) (rnd : Option Nat) (Q : fC) (ks : List Kf) (ops : List Oper) (j : Nat) (bH : List Oper) (d : Option Tmp) (tm : List a9) (fs : List gN) (m : M a9) (h : Hp) (n : Nat) : Prop :=
 Wp (kS j m) h n fun r h' n' => Fe E fn rnd Q ks ops (j + 1) bH (bX tm d r.1) (r.2 :: fs) h' n'
variable {j : Nat} {fs : List gN}
theorem cP {id : Nat} {ops : Array Oper} (hh : (kP E.rV fn id && sQ ops.toList) = true ∧ Fe E fn rnd Q ks ops.toList 0 ops.toList tm [] h n) : Run E fn rnd Q (.region id ops true) ks tm h n := by
 obtain ⟨h1, h2⟩ := hh
 rw [Bool.and_eq_true] at h1
 unfold Fe at h2
 unfold Run; rw [iR]; simp only [step, sI h1.1, xV, dX, aM, T0]
 exact ⟨h1.2, h2⟩
theorem jG : Fe E fn rnd Q ks ops j [] tm fs h n ↔ dW (eF [] ops) fs = true ∧ eR E fn rnd Q ks .normal (bN E fn tm) h n := by
 unfold Fe; simp only [jK, aM]
theorem lO {op : Op} {ty : TypeId} {pos : String} {af : Array Edge} : Fe E fn rnd Q ks ops j (⟨d, op, ty, pos, af, none⟩ :: bH) tm fs h n ↔ FeV E fn rnd Q ks ops j bH d tm fs (execOp E (aY E) tm op) h n := by
 unfold Fe FeV; simp only [jK, opV, wanted, aB, dX]; rfl
def FeG (E : Env) (fn : FuncId) (rnd : Option Nat) (Q : fC) (ks : List Kf) (ops : List Oper) (j : Nat) (bH : List Oper) (d : Option Tmp) (tm : List a9) (fs : List gN) (o : Op) (want : Bool) (v : a9) (h : Hp) (n : Nat) : Prop :=
 FeV E fn rnd Q ks ops j bH d tm fs ((lG want v).bind fun w => match w with | true => execOp E (aY E) tm o | false => M.pure undef) h n
def XK (E : Env) (fn : FuncId) (rnd : Option Nat) (Q : fC) (ks : List Kf) (ops : List Oper) (j : Nat) (bH : List Oper) (d : Option Tmp) (tm : List a9) (fs : List gN) (o : Op) (want : Bool) (g : Option Oper) (h : Hp) (n : Nat) : Prop :=
 match g.bind (·.dst) with
 | some g => FeG E fn rnd Q ks ops j bH d tm fs o want (nth tm g undef) h n
 | none => FeV E fn rnd Q ks ops j bH d tm fs (M.pure undef) h n
theorem kE {op : Op} {ty : TypeId} {pos : String} {af : Array Edge} {i : Nat} {want : Bool} :
  Fe E fn rnd Q ks ops j (⟨d, op, ty, pos, af, some (i, want)⟩ :: bH) tm fs h n ↔ XK E fn rnd Q ks ops j bH d tm fs op want ops[i]? h n := by
 unfold XK
 cases hg : (ops[i]?).bind (·.dst) with
 | none => unfold Fe FeV; simp only [jK, opV, wanted, hg, aB, dX]; rfl
 | some g => unfold Fe FeG FeV; simp only [jK, opV, wanted, hg, dX]; rfl
theorem jA {op : Op} {want : Bool} {g : Tmp} {o2 : Op} {ty : TypeId} {pos : String} {af : Array Edge} {gg : Option (Nat × Bool)} :
  XK E fn rnd Q ks ops j bH d tm fs op want (some ⟨some g, o2, ty, pos, af, gg⟩) h n ↔ FeG E fn rnd Q ks ops j bH d tm fs op want (nth tm g undef) h n := Iff.rfl
theorem DA {α : Type} {b : Bool} {f : Bool → M α} {Q : α × gN → Hp → Nat → Prop} : Wp (kS j ((ask b).bind f)) h n Q ↔ Wp (kS j (f b)) h n Q := by
 have : ∀ s : St, s.orc = none → (kS j ((ask b).bind f)).run s = (kS j (f b)).run s := by
  intro s hs
  simp only [kS, mL, M.bind, mP, ask, E1, hs]
 rw [fM, fM]
 constructor
 ·rintro ⟨a, s', he, hq⟩; exact ⟨a, s', ⟨by rw [← this (at0 h n) rfl]; exact he.run, he.obs, he.oc⟩, hq⟩
 ·rintro ⟨a, s', he, hq⟩; exact ⟨a, s', ⟨by rw [this (at0 h n) rfl]; exact he.run, he.obs, he.oc⟩, hq⟩
theorem kD {op : Op} {want t : Bool} : FeG E fn rnd Q ks ops j bH d tm fs op want (.bool t) h n ↔ FeG E fn rnd Q ks ops j bH d tm fs op want (.gY t) h n := by
 simp only [FeG, lG, FeV, bind_assoc, DA, aB]
theorem oM {op : Op} : FeG E fn rnd Q ks ops j bH d tm fs op true (.gY true) h n ↔ FeV E fn rnd Q ks ops j bH d tm fs (execOp E (aY E) tm op) h n := by
 simp only [FeG, lG, aB]; rfl
theorem oP {op : Op} : FeG E fn rnd Q ks ops j bH d tm fs op false (.gY false) h n ↔ FeV E fn rnd Q ks ops j bH d tm fs (execOp E (aY E) tm op) h n := by
 simp only [FeG, lG, aB]; rfl
theorem oN {op : Op} : FeG E fn rnd Q ks ops j bH d tm fs op true (.gY false) h n ↔ FeV E fn rnd Q ks ops j bH d tm fs (M.pure undef) h n := by
 simp only [FeG, lG, aB]; rfl
theorem oO {op : Op} : FeG E fn rnd Q ks ops j bH d tm fs op false (.gY true) h n ↔ FeV E fn rnd Q ks ops j bH d tm fs (M.pure undef) h n := by
 simp only [FeG, lG, aB]; rfl
theorem oL {op : Op} {want : Bool} : FeG E fn rnd Q ks ops j bH d tm fs op want undef h n ↔ FeV E fn rnd Q ks ops j bH d tm fs (M.pure undef) h n := by
 simp only [FeG, lG, undef, aB]
theorem lN {b : Bool} {f : Bool → M a9} : FeV E fn rnd Q ks ops j bH d tm fs ((ask b).bind f) h n ↔ FeV E fn rnd Q ks ops j bH d tm fs (f b) h n := by
 simp only [FeV, DA]
theorem IZ {α : Type} {a : α} {Q : α × gN → Hp → Nat → Prop} : Wp (kS j (M.pure a)) h n Q ↔ Q (a, ⟨j, [], [], n, n⟩) h n := by
 rw [fM]
 constructor
 ·rintro ⟨r, s', he, hq⟩
  have h0 := he.run
  simp only [kS, mL, M.pure, at0, List.filter_nil, List.append_nil] at h0
  injection h0 with h1 h2
  subst h1; subst h2
  exact hq
 ·intro hq
  exact ⟨_, _, ⟨rfl, ⟨[], rfl, rfl⟩, rfl⟩, hq⟩
theorem kB {v : a9} : FeV E fn rnd Q ks ops j bH d tm fs (M.pure v) h n ↔ Fe E fn rnd Q ks ops (j + 1) bH (bX tm d v) (⟨j, [], [], n, n⟩ :: fs) h n := by
 simp only [FeV, IZ]
theorem kC {w : String} : FeV E fn rnd Q ks ops j bH d tm fs (bF w) h n ↔ False := by
 unfold FeV
 rw [fM]
 refine ⟨?_, False.elim⟩
 rintro ⟨a, s', he, _⟩
 cases he.run
structure Rd {α : Type} (m : M α) (h : Hp) (n : Nat) (ids : List Nat) (v : α) : Prop where
 r : ∀ s, At s h n → ∃ s' o, m.run s = .ok v s' ∧ s'.heap.get = s.heap.get ∧ s'.next = s.next ∧ s'.orc = none ∧ s'.rds = ids ++ s.rds ∧ s'.wrs = s.wrs ∧ s'.obs = o ++ s.obs ∧ o.all id = true
theorem Rd.pure {α : Type} (v : α) : Rd (M.pure v) h n [] v := ⟨fun s hs => ⟨s, [], rfl, rfl, rfl, hs.oc, rfl, rfl, rfl, rfl⟩⟩
theorem Rd.bind {α β : Type} {m : M α} {f : α → M β} {i1 i2 : List Nat} {a : α} {b : β} (h1 : Rd m h n i1 a) (h2 : Rd (f a) h n i2 b) : Rd (m.bind f) h n (i2 ++ i1) b := by
 refine ⟨fun s hs => ?_⟩
 obtain ⟨s1, o1, e1, a1, b1, c1, d1, w1, g1, q1⟩ := h1.r s hs
 obtain ⟨s2, o2, e2, a2, b2, c2, d2, w2, g2, q2⟩ := h2.r s1 ⟨by rw [a1, hs.hp], by rw [b1, hs.nx], c1⟩
 exact ⟨s2, o2 ++ o1, by simp only [M.bind, mP, e1, e2], by rw [a2, a1], by rw [b2, b1], c2, by rw [d2, d1, List.append_assoc], by rw [w2, w1], by rw [g2, g1, List.append_assoc], by rw [List.all_append, q1, q2]; rfl⟩
theorem Rd.get {id : Nat} {b : Blk} (hg : h id = some b) : Rd (fT id) h n [id] b := by
 refine ⟨fun s hs => ⟨{ s with rds := id :: s.rds }, [], ?_, rfl, rfl, hs.oc, rfl, rfl, rfl, rfl⟩⟩
 have : s.heap.get id = some b := by rw [hs.hp]; exact hg
 simp only [fT, BG, this]
theorem Rd.ob {b : Bool} (hb : b = true) : Rd (ob b) h n [] () := by
 subst hb
 exact ⟨fun s hs => ⟨s, [], rfl, rfl, rfl, hs.oc, rfl, rfl, rfl, rfl⟩⟩
theorem Rd.ask (b : Bool) : Rd (ask b) h n [] b := ⟨fun s hs => ⟨s, [], by simp only [Go.Am.ask, E1, hs.oc], rfl, rfl, hs.oc, rfl, rfl, rfl, rfl⟩⟩
theorem Rd.wp {α : Type} {m : M α} {ids : List Nat} {v : α} (hr : Rd m h n ids v) : Wp m h n fun a h' n' => a = v ∧ h' = h ∧ n' = n := by
 obtain ⟨s', o, e, a, b, c, d, w, g, q⟩ := hr.r _ (mQ h n)
 exact fM.2 ⟨v, s', ⟨e, ⟨o, g, q⟩, c⟩, rfl, by rw [a]; rfl, by rw [b]; rfl⟩
theorem bJ {m : M a9} {ids : List Nat} {v : a9} (hr : Rd m h n ids v) :
  FeV E fn rnd Q ks ops j bH d tm fs m h n ↔ Fe E fn rnd Q ks ops (j + 1) bH (bX tm d v) (⟨j, ids, [], n, n⟩ :: fs) h n := by
 unfold FeV
 obtain ⟨s', o, e, a, b, c, dd, w, g, q⟩ := hr.r (at0 h n) (mQ h n)
 have hold : ids.filter (old n n) = ids := by
  rw [List.filter_eq_self]
  intro id _
  unfold old
  by_cases hc : id < n
  ·rw [show id.blt n = true from Nat.ble_eq_true_of_le hc]; rfl
  ·rw [show n.ble id = true from Nat.ble_eq_true_of_le (by omega)]; simp
 have hf : (kS j m).run (at0 h n) = .ok (v, ⟨j, ids, [], n, n⟩) { s' with rds := s'.rds ++ (at0 h n).rds, wrs := s'.wrs ++ (at0 h n).wrs } := by
  have e' : m.run { at0 h n with rds := [], wrs := [] } = .ok v s' := e
  simp only [kS, mL, e', dd, w, b]
  simp only [at0, List.append_nil, hold, List.filter_nil]
 rw [fM]
 constructor
 ·rintro ⟨r, s2, he, hq⟩
  have h0 := he.run
  rw [hf] at h0
  injection h0 with h1 h2
  subst h1; subst h2
  rw [a, b] at hq
  exact hq
 ·intro hq
  refine ⟨_, _, ⟨hf, ⟨o, g, q⟩, c⟩, ?_⟩
  rw [a, b]; exact hq
def bG (h : Hp) (n : Nat) : Prop := ∀ id, n ≤ id → h id = none
theorem bG.none : bG (fun _ => none) n := fun _ _ => rfl
theorem bG.new {b : Option Blk} (hf : bG h n) : bG (upd h n b) (n + 1) := fun id hi => by rw [aG _ _ (by omega)]; exact hf id (by omega)
theorem bG.upd {b : Option Blk} {i : Nat} (hf : bG h n) (hi : i < n) : bG (upd h i b) n := fun id hid => by rw [aG _ _ (by omega)]; exact hf id hid
theorem Wp.xP {α : Type} {m : M α} {Q : α → Hp → Nat → Prop} (hw : Wp m h n Q) (hf : bG h n) : Wp m h n fun a h' n' => Q a h' n' ∧ n ≤ n' ∧ bG h' n' := by
 obtain ⟨s, a, s', hs, he, hq⟩ := hw
 obtain ⟨r, w, o, d⟩ := m.loc _ _ _ he.run
 have hsf : ∀ id, n ≤ id → s.heap.get id = none := fun id hi => by rw [hs.hp]; exact hf id hi
 have hn : n ≤ s'.next := by rw [← hs.nx]; exact d.next
 refine ⟨s, a, s', hs, he, hq, hn, fun id hi => ?_⟩
 have hnn : ¬ New s s' id := fun hh => by have := hh.2; omega
 rw [d.bH id (fun hw => by
  rcases d.eT id hw with hh | hh
  ·exact hh (hsf id (by omega))
  ·exact hnn hh) hnn]
 exact hsf id (by omega)
theorem aJ {m : M a9} {Q1 : a9 → Hp → Nat → Prop} (hf : bG h n) (hw : Wp m h n Q1) (hq : ∀ v h' n', n ≤ n' → bG h' n' → Q1 v h' n' → Ops E fn rnd Q ks ops bH (bX tm d v) h' n') : OpV E fn rnd Q ks ops bH d tm m h n :=
 dL (hw.xP hf) fun a h' n' hh => hq a h' n' hh.2.1 hh.2.2 hh.1
theorem pW {m : M a9} {Q0 Q1 : a9 → Hp → Nat → Prop} (hf : bG h n) (hw0 : Wp m (fun _ => none) n Q0) (hw : Wp m h n Q1)
  (hq : ∀ v h' n', n ≤ n' → bG h' n' → Q1 v h' n' → Fe E fn rnd Q ks ops (j + 1) bH (bX tm d v) (⟨j, [], [], n, n'⟩ :: fs) h' n') : FeV E fn rnd Q ks ops j bH d tm fs m h n := by
 unfold FeV
 obtain ⟨v0, s0, he0, _⟩ := fM.1 hw0
 obtain ⟨v, s', he, hq1, hn1, hf1⟩ := fM.1 (hw.xP hf)
 obtain ⟨r, w, o, dd⟩ := m.loc _ _ _ he0.run
 have hrn : ∀ id, id ∈ r → New (at0 (fun _ => none) n) s0 id := fun id hid => by
  rcases dd.uX id hid with hh | hh
  ·exact absurd rfl hh
  ·exact hh
 have hwn : ∀ id, id ∈ w → New (at0 (fun _ => none) n) s0 id := fun id hid => by
  rcases dd.eT id hid with hh | hh
  ·exact absurd rfl hh
  ·exact hh
 obtain ⟨t', e, g1, g2, g3, g4, g5, g6, g7⟩ := dd.rP (at0 h n) rfl rfl (fun id hid => by
  have : New (at0 (fun _ => none) n) s0 id := by
   rcases hid with hid | hid | hid
   ·exact hrn id hid
   ·exact hwn id hid
   ·exact hid
  exact hf id this.1)
 rw [he.run] at e
 injection e with e1 e2
 subst e1; subst e2
 have old0 : ∀ l : List Nat, (∀ id, id ∈ l → New (at0 (fun _ => none) n) s0 id) → l.filter (old n s'.next) = [] := by
  intro l hl
  rw [List.filter_eq_nil_iff]
  intro id hid
  have := hl id hid
  unfold old
  have h1 : id.blt n = false := by
   cases hc : id.blt n with
   | false => rfl
   | true => have h2 := Nat.le_of_ble_eq_true hc; have h3 : n ≤ id := this.1; omega
  have h2 : s'.next.ble id = false := by
   cases hc : s'.next.ble id with
   | false => rfl
   | true => have h2 := Nat.le_of_ble_eq_true hc; have h3 := this.2; rw [g1] at h2; omega
  rw [h1, h2]; simp
 have hfoot : (kS j m).run (at0 h n) = .ok (v, ⟨j, [], [], n, s'.next⟩) { s' with rds := s'.rds ++ (at0 h n).rds, wrs := s'.wrs ++ (at0 h n).wrs } := by
  have e' : m.run { at0 h n with rds := [], wrs := [] } = .ok v s' := he.run
  simp only [kS, mL, e']
  rw [g3, g4]
  have q1 := old0 r hrn
  have q2 := old0 w hwn
  simp only [at0, List.append_nil, q1, q2]
 refine fM.2 ⟨_, _, ⟨hfoot, he.obs, he.oc⟩, ?_⟩
 exact hq v _ _ hn1 hf1 hq1
theorem eE {m : M a9} {Q1 : a9 → Hp → Nat → Prop} (hf : bG h n) (hw : Wp m h n Q1)
  (hq : ∀ v h' n' r w, n ≤ n' → bG h' n' → Q1 v h' n' → Fe E fn rnd Q ks ops (j + 1) bH (bX tm d v) (⟨j, r, w, n, n'⟩ :: fs) h' n') : FeV E fn rnd Q ks ops j bH d tm fs m h n := by
 unfold FeV
 obtain ⟨v, s', he, hq1, hn1, hf1⟩ := fM.1 (hw.xP hf)
 have e' : m.run { at0 h n with rds := [], wrs := [] } = .ok v s' := he.run
 have hfoot : (kS j m).run (at0 h n) = .ok (v, ⟨j, s'.rds.filter (old n s'.next), s'.wrs.filter (old n s'.next), n, s'.next⟩) { s' with rds := s'.rds ++ (at0 h n).rds, wrs := s'.wrs ++ (at0 h n).wrs } := by
  simp only [kS, mL, e']; rfl
 refine fM.2 ⟨_, _, ⟨hfoot, he.obs, he.oc⟩, ?_⟩
 exact hq v _ _ _ _ hn1 hf1 hq1
theorem Bytes.EB {v : a9} {l : List UInt8} (hb : Bytes h v l) {t t2 e : TypeId} (ht : und E t = M.pure (.slice e)) (h2 : und E t2 = M.pure .string) (he : und E e = M.pure (.int .u8)) :
  Rd (convert E t t2 v) h n (bB v).toList (.str l) := by
 have key : convert E t t2 v = gP E e v := by
  cases hb <;> simp only [convert, ht, h2, aB]
 rw [key]
 have cells : Rd (dQ 1 l.length v) h n (bB v).toList (l.map u8) := by
  cases hb with
  | aV => exact Rd.bind (m := ob (Nat.beq 0 0)) (f := fun _ => M.pure []) (Rd.ob rfl) (Rd.pure _)
  | isl g off l hf =>
   have := jQ g l.length off (l.map u8) (by simp) (fun j hj => by rw [hf j (by simpa using hj)]; simp)
   simp only [dQ, bE, Nat.beq_refl, Nat.mul_one, this]
   exact Rd.bind (i2 := []) (Rd.ob (Nat.ble_self_eq_true _)) (Rd.pure _)
  | sl id off cap c e l hh hs hc =>
   have := bK.pE (c := c) (off := off) (l := l.map u8) (by simpa using hs) (fun j hj => by rw [hc j (by simpa using hj)]; simp)
   simp only [List.length_map] at this
   simp only [dQ, bE, Nat.beq_refl, Nat.mul_one]
   refine Rd.bind (i2 := []) (Rd.get hh) ?_
   simp only [cT]
   refine Rd.bind (i2 := []) (Rd.ob (Nat.ble_self_eq_true _)) (Rd.bind (i2 := []) (Rd.ob (dS hs)) ?_)
   rw [this]; exact Rd.pure _
 simp only [gP, he, aB, oG, hb.len]
 refine Rd.bind (i2 := []) cells (Rd.bind (i2 := []) (Rd.ob (qZ l)) ?_)
 rw [kJ]; exact Rd.pure _
theorem mJ (f : gN) : lL [] f = false := by unfold lL; cases f.lo.beq f.hi <;> rfl
theorem nQ (x : List Nat) (j n : Nat) (r w : List Nat) : lL x ⟨j, r, w, n, n⟩ = false := by unfold lL; simp
theorem lT (x : List Nat) : jJ [] x = false := rfl
theorem kQ (x : List Nat) : jJ x [] = false := by unfold jJ; simp
end Go.Am
set_option linter.unusedSimpArgs false
set_option linter.unusedVariables false
set_option linter.defProp false
namespace Go.Am
open Go Go.RowKit
variable {E : Env} {fn : FuncId} {rnd : Option Nat} {Q : fC} {ks : List Kf} {tm : List a9} {h : Hp} {n : Nat} {ops bH : List Oper} {d : Option Tmp}
theorem yJ (j n : Nat) (b : gN) : gC ⟨j, [], [], n, n⟩ b = false := by
 simp only [gC, lT, kQ, mJ, nQ, Bool.or_false]
theorem yI (a : gN) (j n : Nat) : gC a ⟨j, [], [], n, n⟩ = false := by
 simp only [gC, lT, kQ, mJ, nQ, Bool.or_false]
theorem yH (i j n m : Nat) (r s : List Nat) : gC ⟨i, r, [], n, n⟩ ⟨j, s, [], m, m⟩ = false := by
 simp only [gC, lT, kQ, nQ, Bool.or_false]
theorem yM (i j a b c e : Nat) : gC ⟨i, [], [], a, b⟩ ⟨j, [], [], c, e⟩ = false := by
 simp only [gC, lT, kQ, mJ, Bool.or_false]
theorem RC {α : Type} {j : Nat} {b : Bool} {f : Unit → M α} : kS j ((ob b).bind f) = (ob b).bind fun _ => kS j (f ()) := M.ext' fun s => by cases b <;> rfl
theorem oK {j : Nat} {fs : List gN} {b : Bool} {f : Unit → M a9} : FeV E fn rnd Q ks ops j bH d tm fs ((ob b).bind f) h n ↔ b = true ∧ FeV E fn rnd Q ks ops j bH d tm fs (f ()) h n := by
 unfold FeV; rw [RC, fP]
def mG : a9 → Bool
 | .aV => true
 | _ => false
theorem Bytes.nil {v : a9} {l : List UInt8} (hb : Bytes h v l) : pM v = M.pure (mG v) ∧ (mG v = true → l = []) := by
 cases hb <;> exact ⟨rfl, fun h => by first | rfl | cases h⟩
theorem cO : pM .aV = M.pure true := rfl
theorem cR (i o l : Nat) (c : Option Nat) (z : Nat) : pM (.sl i o l c z) = M.pure false := rfl
theorem cU (f : Nat → a9) (z o l : Nat) : pM (.isl f z o l) = M.pure false := rfl
theorem XF (op : BinOp) (t : TypeId) (k : IntKind) (a : Int) (y : a9) : binOp E op t (.int k a) y = cK op k a y := rfl
theorem XB (op : BinOp) (t : TypeId) (a : List UInt8) (y : a9) : binOp E op t (.str a) y = eI (fun b => strOp op a b) y := rfl
theorem S2 (op : BinOp) (t : TypeId) (b : Bool) (y : a9) : binOp E op t (.bool b) y = aR E op t (.bool b) y := rfl
theorem S3 (op : BinOp) (t : TypeId) (b : Bool) (y : a9) : binOp E op t (.gY b) y = aR E op t (.gY b) y := rfl
theorem RY (op : BinOp) (t : TypeId)  (y : a9) : binOp E op t (.dP ) y = aR E op t (.dP ) y := rfl
theorem RW (op : BinOp) (t : TypeId)  (y : a9) : binOp E op t (.aV ) y = aR E op t (.aV ) y := rfl
theorem RZ (op : BinOp) (t : TypeId)  (y : a9) : binOp E op t (.lJ ) y = aR E op t (.lJ ) y := rfl
theorem S0 (op : BinOp) (t : TypeId)  (y : a9) : binOp E op t (.dI ) y = aR E op t (.dI ) y := rfl
theorem XC (op : BinOp) (t : TypeId) (i o : Nat) (y : a9) : binOp E op t (.ptr i o) y = aR E op t (.ptr i o) y := rfl
theorem ag8 (op : BinOp) (t : TypeId) (i o n : Nat) (c : Option Nat) (s : Nat) (y : a9) : binOp E op t (.sl i o n c s) y = aR E op t (.sl i o n c s) y := rfl
theorem ag9 (op : BinOp) (t : TypeId) (f : Nat → a9) (n o : Nat) (y : a9) : binOp E op t (.ip f n o) y = aR E op t (.ip f n o) y := rfl
theorem XE (op : BinOp) (t : TypeId) (f : Nat → a9) (s o n : Nat) (y : a9) : binOp E op t (.isl f s o n) y = aR E op t (.isl f s o n) y := rfl
theorem ah0 (op : BinOp) (t : TypeId) (f : Fn) (a b : List a9) (y : a9) : binOp E op t (.fn f a b) y = aR E op t (.fn f a b) y := rfl
theorem XD (op : BinOp) (t : TypeId) (i : Nat) (y : a9) : binOp E op t (.map i) y = aR E op t (.map i) y := rfl
theorem XG (op : BinOp) (t : TypeId) (l : List a9) (y : a9) : binOp E op t (.agg l) y = aR E op t (.agg l) y := rfl
def bor := (And.intro @XF (And.intro @XB (And.intro @S2 (And.intro @S3 (And.intro @RY (And.intro @RW (And.intro @RZ (And.intro @S0 (And.intro @XC (And.intro @ag8 (And.intro @ag9 (And.intro @XE (And.intro @ah0 (And.intro @XD @XG))))))))))))))
theorem Bytes.DL {v : a9} {l : List UInt8} (hb : Bytes h v l) {t e : TypeId} (ht : und E t = M.pure (.slice e)) : binOp E .eql t v .aV = M.pure (.bool (mG v)) := by
 have key : ∀ x y, equal E 100 t x y = (pM x).bind fun a => (pM y).bind fun b => match a || b with | true => M.pure (a && b) | false => bF "equal: slices" := by
  intro x y
  unfold equal
  rw [ht, aB]
  rfl
 have k2 : aR E .eql t v .aV = M.pure (.bool (mG v)) := by
  unfold aR aU
  simp only
  rw [key, hb.nil.1]
  simp only [aB, cO, Bool.or_true, Bool.and_true]
 cases hb <;> exact k2
end Go.Am
set_option linter.unusedSimpArgs false
set_option linter.unusedVariables false
set_option linter.defProp false
namespace Go.Am
open Go Go.RowKit
variable {E : Env} {fn : FuncId} {rnd : Option Nat} {Q : fC} {ks : List Kf} {tm : List a9} {h : Hp} {n : Nat} {ops bH : List Oper} {d : Option Tmp}
theorem aI {m : M a9} {ids : List Nat} {v : a9} (hr : Rd m h n ids v) : OpV E fn rnd Q ks ops bH d tm m h n ↔ Ops E fn rnd Q ks ops bH (bX tm d v) h n := kV hr.wp _ _ _ _ _ _ _ _ _
def lH (lo hi : Nat) : a9 → a9
 | .isl g sz off len => .isl g sz (off + lo * sz) (hi - lo)
 | .sl id off len cap sz => .sl id (off + lo * sz) (hi - lo) (match cap with | some c => some (c - lo) | none => none) sz
 | v => v
theorem Bytes.sub {v : a9} {l : List UInt8} (hb : Bytes h v l) {lo hi : Nat} (h1 : lo ≤ hi) (h2 : hi ≤ l.length) : Bytes h (lH lo hi v) ((l.take hi).drop lo) := by
 have hlen : ((l.take hi).drop lo).length = hi - lo := by simp; omega
 cases hb with
 | aV =>
  have : hi = 0 := by simpa using h2
  subst this
  have : lo = 0 := by omega
  subst this
  exact .aV
 | isl f off l hf =>
  have := Bytes.isl (h := h) f (off + lo * 1) ((l.take hi).drop lo) (fun j hj => by
   rw [hlen] at hj
   have := hf (lo + j) (by omega)
   rw [Nat.mul_one, Nat.add_assoc, this]
   simp)
  rw [hlen] at this
  exact this
 | sl id off cap c e l hh hs hc =>
  have := Bytes.sl (h := h) id (off + lo * 1) (match cap with | some c => some (c - lo) | none => none) c e ((l.take hi).drop lo) hh (by rw [hlen]; omega) (fun j hj => by
   rw [hlen] at hj
   have := hc (lo + j) (by omega)
   rw [Nat.mul_one, Nat.add_assoc, this]
   simp)
  rw [hlen] at this
  exact this
theorem qH.sub {v : a9} (hv : qH n v) (lo hi : Nat) : qH n (lH lo hi v) := by cases v <;> exact hv
def vK : a9 → Prop
 | .sl _ _ len (some c) _ => len ≤ c
 | _ => True
theorem vK.sub {v : a9} {l : List UInt8} (hb : Bytes h v l) (hr : vK v) {lo hi : Nat} (h1 : lo ≤ hi) (h2 : hi ≤ l.length) : vK (lH lo hi v) := by
 cases hb with
 | aV => trivial
 | isl f off l hf => trivial
 | sl id off cap c e l hh hs hc =>
  cases cap with
  | none => trivial
  | some cc =>
   have : l.length ≤ cc := hr
   show hi - lo ≤ cc - lo
   omega
theorem Bytes.aS {h h' : Hp} {v : a9} {l : List UInt8} (hb : Bytes h v l) (hk : ∀ j, bB v = some j → h' j = h j) : Bytes h' v l := by
 cases hb with
 | aV => exact .aV
 | isl f off l hf => exact .isl f off l hf
 | sl id off cap c e l hh hs hc => exact .sl id off cap c e l (by rw [hk id rfl]; exact hh) hs hc
end Go.Am
set_option linter.unusedSimpArgs false
set_option linter.unusedVariables false
set_option linter.defProp false
namespace Go.Am
open Go
def UP : TypeDesc → Bool
 | .bool | .int _ | .string | .slice _ | .struct _ | .array _ _ => false
 | _ => true
def cut (f : Nat → a9) (o n : Nat) : List a9 := (List.range n).map fun j => f (o + j)
inductive Arg (P : Program) : TypeId → List a9 → Prop
 | bool (t : TypeId) (b : Bool) (ht : P.underlying t = some .bool) : Arg P t [.bool b]
 | int (t : TypeId) (k : IntKind) (n : Int) (ht : P.underlying t = some (.int k)) (hw : (Lit.int k n).wf = true) : Arg P t [.int k n]
 | str (t : TypeId) (l : List UInt8) (ht : P.underlying t = some .string) (hl : l.length ≤ maxLen) : Arg P t [.str l]
 | aV (t e : TypeId) (ht : P.underlying t = some (.slice e)) : Arg P t [.aV]
 | isl (t e : TypeId) (f : Nat → a9) (len : Nat) (ht : P.underlying t = some (.slice e)) (hl : len ≤ maxLen) (he : ∀ i, i < len → Arg P e (cut f (i * P.cellsOf e) (P.cellsOf e))) : Arg P t [.isl f (P.cellsOf e) 0 len]
 | zero (t e : TypeId) (ht : P.underlying t = some (.slice e)) (hz : P.cellsOf e = 0) : Arg P t [.aA]
 | struct (t : TypeId) (fs : Array Field) (vs : List a9) (ht : P.underlying t = some (.struct fs)) (hl : vs.length = P.cellsOf t) (he : ∀ (i : Nat) (fd : Field), fs[i]? = some fd → Arg P fd.type ((vs.drop fd.offset).take (P.cellsOf fd.type))) : Arg P t vs
 | array (t : TypeId) (n : Nat) (e : TypeId) (vs : List a9) (ht : P.underlying t = some (.array n e)) (hl : vs.length = P.cellsOf t) (he : ∀ i, i < n → Arg P e ((vs.drop (i * P.cellsOf e)).take (P.cellsOf e))) : Arg P t vs
 | YV (t : TypeId) (vs : List a9) (d : TypeDesc) (ht : P.underlying t = some d) (hd : UP d = true) : Arg P t vs
variable {ρ : Ren} {m : Mem}
theorem RV.get {a : List a9} {x : List Value} (h : RV ρ m a x) : ∀ (j : Nat) (v : a9) (z : Value), a[j]? = some v → x[j]? = some z → R ρ m v z := by
 induction h with
 | nil => intro j v z h; simp at h
 | cons h t ih =>
  intro j v z hv hz
  cases j with
  | zero => simp at hv hz; subst hv; subst hz; exact h
  | succ j => exact ih j v z (by simpa using hv) (by simpa using hz)
section
variable {H : Type} {enc : TypeId × Value → H} {P : Program} {w : World} {spare : Nat → Bool} {ZE : Bool}
end
theorem Arg.bool_inv {P : Program} {t : TypeId} {vs : List a9} (ht : P.underlying t = some .bool) (ha : Arg P t vs) : ∃ z, vs = [.bool z] := by
 cases ha with
 | int t k z h2 hw => rw [ht] at h2; cases h2
 | bool t b h2 => exact ⟨b, rfl⟩
 | str t b h2 _ => rw [ht] at h2; cases h2
 | aV t e h2 => rw [ht] at h2; cases h2
 | isl t e f len h2 => rw [ht] at h2; cases h2
 | zero t e h2 => rw [ht] at h2; cases h2
 | struct t e f h2 => rw [ht] at h2; cases h2
 | array t e f g h2 => rw [ht] at h2; cases h2
 | YV t e d h2 h3 => rw [ht] at h2; injection h2 with h2; subst h2; cases h3
end Go.Am
set_option linter.unusedSimpArgs false
set_option linter.unusedVariables false
set_option linter.defProp false
namespace Go.Am
open Go Go.RowKit
variable {E : Env} {fn : FuncId} {rnd : Option Nat} {Q : fC} {ks : List Kf} {tm : List a9} {h : Hp} {n : Nat} {ops bH : List Oper} {d : Option Tmp}
def wd (n i : Nat) : Nat := n / 2 ^ (64 * i) % 18446744073709551616
def W (n : Nat) : a9 := .agg [.int .u64 (wd n 0 : Nat), .int .u64 (wd n 1 : Nat), .int .u64 (wd n 2 : Nat), .int .u64 (wd n 3 : Nat)]
def C3 (k : IntKind) (h : Hp) (v : a9) (id m : Nat) (f : Nat → Int) : Prop := (∃ cap, v = .sl id 0 m cap 1) ∧ ∃ c e, h id = some (.row c e) ∧ c.size = m ∧ ∀ j, j < m → c.at j = .int k (f j)
theorem C3.aS {k : IntKind} {v : a9} {id m : Nat} {f : Nat → Int} {h' : Hp} (hi : C3 k h v id m f) (hk : h' id = h id) : C3 k h' v id m f := by
 obtain ⟨a, c, e, b1, b2, b3⟩ := hi
 exact ⟨a, c, e, hk.trans b1, b2, b3⟩
theorem C3.len {k : IntKind} {v : a9} {id m : Nat} {f : Nat → Int} (hi : C3 k h v id m f) {t e : TypeId} {ts : List TypeId} (ht : und E t = M.pure (.slice e)) : dD E (t :: ts) v = M.pure (.int .i64 (m : Nat)) := by
 obtain ⟨⟨cap, rfl⟩, _⟩ := hi
 simp only [dD, ht, aB, lenOf]
theorem C3.idx {k : IntKind} {v : a9} {id m : Nat} {f : Nat → Int} (hi : C3 k h v id m f) {t e : TypeId} (ht : und E t = M.pure (.slice e)) (he : sizeOf E e = M.pure 1) {kk : IntKind} {z : Int} {j : Nat} (hz : z = (j : Nat)) (hj : j < m) {h' : Hp} {n' : Nat} : Rd (indexAddr E t v (.int kk z)) h' n' [] (.ptr id j) := by
 obtain ⟨⟨cap, rfl⟩, _⟩ := hi
 subst hz
 simp only [indexAddr, ht, he, aB, dC, slK, Go.Am.idx, bind_assoc, Nat.beq_refl, Int.toNat_natCast, Nat.zero_add, Nat.mul_one]
 exact Rd.bind (i2 := []) (Rd.ob (by simp; omega)) (Rd.pure _)
theorem C3.load {k : IntKind} {v : a9} {id m : Nat} {f : Nat → Int} (hi : C3 k h v id m f) {e : TypeId} {i : TI} (he : ti E e = M.pure i) (ha : dT i.desc = false) {j : Nat} (hj : j < m) : Rd (load E e (.ptr id j)) h n [id] (.int k (f j)) := by
 obtain ⟨_, c, e', b1, b2, b3⟩ := hi
 simp only [Go.Am.load, he, aB, ha, aW, bind_assoc]
 refine Rd.bind (i2 := []) (Rd.get b1) ?_
 simp only [cT, bind_assoc]
 refine Rd.bind (i2 := []) (Rd.ob (dS (by omega))) ?_
 rw [bK.mS (by omega), b3 j hj]
 exact Rd.pure _
theorem GC (xs : List a9) (v : a9) : ∀ i, (put xs i v).length = xs.length := by
 induction xs with
 | nil => intro i; rfl
 | cons a xs ih => intro i; cases i <;> simp [put, ih]
def Arr (k : IntKind) (h : Hp) (id m : Nat) (f : Nat → Int) : Prop := ∃ c e, h id = some (.row c e) ∧ c.size = m ∧ ∀ j, j < m → c.at j = .int k (f j)
theorem Arr.aS {k : IntKind} {id m : Nat} {f : Nat → Int} {h' : Hp} (hi : Arr k h id m f) (hk : h' id = h id) : Arr k h' id m f := by
 obtain ⟨c, e, b1, b2, b3⟩ := hi
 exact ⟨c, e, hk.trans b1, b2, b3⟩
theorem Arr.upd {k : IntKind} {id m i : Nat} {f : Nat → Int} {b : Option Blk} (hi : Arr k h id m f) (hk : id ≠ i) : Arr k (upd h i b) id m f := hi.aS (aG _ _ hk)
theorem Arr.load {k : IntKind} {id m : Nat} {f : Nat → Int} (hi : Arr k h id m f) {e : TypeId} {i : TI} (he : ti E e = M.pure i) (ha : dT i.desc = false) {j : Nat} (hj : j < m) : Rd (load E e (.ptr id j)) h n [id] (.int k (f j)) := by
 obtain ⟨c, e', b1, b2, b3⟩ := hi
 simp only [Go.Am.load, he, aB, ha, aW, bind_assoc]
 refine Rd.bind (i2 := []) (Rd.get b1) ?_
 simp only [cT, bind_assoc]
 refine Rd.bind (i2 := []) (Rd.ob (dS (by omega))) ?_
 rw [bK.mS (by omega), b3 j hj]
 exact Rd.pure _
theorem Arr.all {k : IntKind} {id m : Nat} {f : Nat → Int} (hi : Arr k h id m f) {t : TypeId} {i : TI} (he : ti E t = M.pure i) (ha : dT i.desc = true) (hs : i.size = m) : Rd (Go.Am.load E t (.ptr id 0)) h n [id] (.agg ((List.range m).map fun j => .int k (f j))) := by
 obtain ⟨c, e', b1, b2, b3⟩ := hi
 simp only [Go.Am.load, he, aB, ha, aW, bind_assoc, hs]
 refine Rd.bind (i2 := []) (Rd.get b1) ?_
 simp only [cT, bind_assoc]
 refine Rd.bind (i2 := []) (Rd.ob (dS (by omega))) ?_
 have hsub : c.sub 0 m = (List.range m).map fun j => a9.int k (f j) := by
  have := bK.pE (c := c) (off := 0) (l := (List.range m).map fun j => a9.int k (f j)) (by simp; omega) (fun j hj => by
   simp only [List.length_map, List.length_range] at hj
   rw [Nat.zero_add, b3 j hj]; simp)
  simpa using this
 rw [hsub]
 exact Rd.pure _
theorem HG {id e off : Nat} {t : TypeId} {i : TI} {cs : List a9} {x : a9} (hh : h id = some (.row (.l cs) e)) (hc : cs[off]? = some x) (hi : ti E t = M.pure i) (ha : dT i.desc = false) : Rd (Go.Am.load E t (.ptr id off)) h n [id] x := by
 obtain ⟨hl, hx⟩ := List.getElem?_eq_some_iff.1 hc
 simp only [Go.Am.load, hi, aB, ha, aW, bind_assoc]
 refine Rd.bind (i2 := []) (Rd.get hh) ?_
 simp only [cT, bind_assoc]
 refine Rd.bind (i2 := []) (Rd.ob (dS (by show off + 1 ≤ cs.length; omega))) ?_
 rw [bK.mS (by show off < cs.length; exact hl), bK.vW hl, hx]
 exact Rd.pure _
structure Wr {α : Type} (m : M α) (h : Hp) (n : Nat) (rs ws : List Nat) (v : α) (h2 : Hp) : Prop where
 r : ∀ s, At s h n → ∃ s' o, m.run s = .ok v s' ∧ s'.heap.get = h2 ∧ s'.next = s.next ∧ s'.orc = none ∧ s'.rds = rs ++ s.rds ∧ s'.wrs = ws ++ s.wrs ∧ s'.obs = o ++ s.obs ∧ o.all id = true
theorem Wr.bind {α β : Type} {m : M α} {f : α → M β} {i1 rs ws : List Nat} {a : α} {b : β} {h2 : Hp} (h1 : Rd m h n i1 a) (hw : Wr (f a) h n rs ws b h2) : Wr (m.bind f) h n (rs ++ i1) ws b h2 := by
 refine ⟨fun s hs => ?_⟩
 obtain ⟨s1, o1, e1, a1, b1, c1, d1, w1, g1, q1⟩ := h1.r s hs
 obtain ⟨s2, o2, e2, a2, b2, c2, d2, w2, g2, q2⟩ := hw.r s1 ⟨by rw [a1, hs.hp], by rw [b1, hs.nx], c1⟩
 exact ⟨s2, o2 ++ o1, by simp only [M.bind, mP, e1, e2], a2, by rw [b2, b1], c2, by rw [d2, d1, List.append_assoc], by rw [w2, w1], by rw [g2, g1, List.append_assoc], by rw [List.all_append, q1, q2]; rfl⟩
theorem Wr.ret {α β : Type} {m : M α} {rs ws : List Nat} {a : α} {w : β} {h2 : Hp} (hw : Wr m h n rs ws a h2) : Wr (m.bind fun _ => M.pure w) h n rs ws w h2 := by
 refine ⟨fun s hs => ?_⟩
 obtain ⟨s1, o1, e1, r⟩ := hw.r s hs
 exact ⟨s1, o1, by simp only [M.bind, mP, e1, M.pure], r⟩
theorem Wr.set {id : Nat} {b0 b : Blk} (hg : h id = some b0) : Wr (kM id b) h n [] [id] () (Go.Am.upd h id (some b)) := by
 refine ⟨fun s hs => ⟨{ s with heap := s.heap.put id (some b), wrs := id :: s.wrs }, [], ?_, ?_, rfl, hs.oc, rfl, rfl, rfl, rfl⟩⟩
 ·have : s.heap.get id = some b0 := by rw [hs.hp]; exact hg
  simp only [kM, vO, this]
 ·funext j
  simp only [Tr.oJ, hs.hp, Go.Am.upd]
theorem jZ {m : M a9} {rs ws : List Nat} {v : a9} {h2 : Hp} {o : Nat} {fs : List gN} (hr : Wr m h n rs ws v h2) (hq : Fe E fn rnd Q ks ops (o + 1) bH (bX tm d v) (⟨o, rs, ws, n, n⟩ :: fs) h2 n) :
  FeV E fn rnd Q ks ops o bH d tm fs m h n := by
 unfold FeV
 obtain ⟨s', ob, e, a, b, c, dd, w, g, q⟩ := hr.r (at0 h n) (mQ h n)
 have hold : ∀ l : List Nat, l.filter (old n n) = l := fun l => by
  rw [List.filter_eq_self]
  intro id _
  unfold old
  by_cases hc : id < n
  ·rw [show id.blt n = true from Nat.ble_eq_true_of_le hc]; rfl
  ·rw [show n.ble id = true from Nat.ble_eq_true_of_le (by omega)]; simp
 have hf : (kS o m).run (at0 h n) = .ok (v, ⟨o, rs, ws, n, n⟩) { s' with rds := s'.rds ++ (at0 h n).rds, wrs := s'.wrs ++ (at0 h n).wrs } := by
  have e' : m.run { at0 h n with rds := [], wrs := [] } = .ok v s' := e
  simp only [kS, mL, e', dd, w, b]
  simp only [at0, List.append_nil, hold]
 rw [fM]
 refine ⟨_, _, ⟨hf, ⟨ob, g, q⟩, c⟩, ?_⟩
 rw [a, b]; exact hq
theorem yG {i j n m x y : Nat} (h : x ≠ y) : gC ⟨i, [x], [], n, n⟩ ⟨j, [y], [y], m, m⟩ = false := by
 simp [gC, jJ, lL, kU h]
theorem yF {i j n m x y : Nat} (h : x ≠ y) : gC ⟨i, [x], [x], n, n⟩ ⟨j, [y], [], m, m⟩ = false := by
 simp [gC, jJ, lL, kU h]
theorem yE {i j n m x y : Nat} (h : x ≠ y) : gC ⟨i, [x], [x], n, n⟩ ⟨j, [y], [y], m, m⟩ = false := by
 simp [gC, jJ, lL, kU h]
theorem yL {i j a b m x : Nat} (h : x < a ∨ b ≤ x) : gC ⟨i, [], [], a, b⟩ ⟨j, [x], [x], m, m⟩ = false := by
 have : within a b x = false := by
  unfold within
  rcases h with h | h
  ·rw [iL (by omega)]; rfl
  ·rw [show x.blt b = false from iL (by omega)]; simp
 simp only [gC, jJ, lL, this, List.any_nil, List.any_cons, Bool.or_false, Bool.false_or, Bool.or_self]
 cases a.beq b <;> simp [this]
theorem yD {i j a b m x : Nat} (h : x < a ∨ b ≤ x) : gC ⟨i, [x], [], m, m⟩ ⟨j, [], [], a, b⟩ = false := by
 have : within a b x = false := by
  unfold within
  rcases h with h | h
  ·rw [iL (by omega)]; rfl
  ·rw [show x.blt b = false from iL (by omega)]; simp
 simp only [gC, jJ, lL, this, List.any_nil, List.any_cons, Bool.or_false, Bool.false_or, Bool.or_self]
 cases a.beq b <;> simp [this]
theorem yK {i j a b m x : Nat} (h : x < a ∨ b ≤ x) : gC ⟨i, [], [], a, b⟩ ⟨j, [x], [], m, m⟩ = false := by
 have : within a b x = false := by
  unfold within
  rcases h with h | h
  ·rw [iL (by omega)]; rfl
  ·rw [show x.blt b = false from iL (by omega)]; simp
 simp only [gC, jJ, lL, this, List.any_nil, List.any_cons, Bool.or_false, Bool.false_or, Bool.or_self]
 cases a.beq b <;> simp [this]
end Go.Am
set_option linter.unusedSimpArgs false
set_option linter.unusedVariables false
set_option linter.defProp false
namespace Go.Am
open Go
def KL : List a9 → M a9
 | [.int .u64 x, .int .u64 y, .int .u64 c] => (ob (decide (0 ≤ x ∧ 0 ≤ y ∧ 0 ≤ c ∧ c ≤ 1))).bind fun _ => M.pure (.tup [.int .u64 (((x.toNat + 18446744073709551616 - y.toNat - c.toNat) % 18446744073709551616 : Nat) : Int), .int .u64 ((if x.toNat < y.toNat + c.toNat then 1 else 0 : Nat) : Int)])
 | _ => bF "Sub64"
variable {P : Program} {f : FuncId}
def al0 (x y c : Nat) : Nat := (x + 18446744073709551616 - y - c) % 18446744073709551616
def al1 (x y c : Nat) : Nat := if x < y + c then 1 else 0
theorem pE {x y c : Nat} (hc : c ≤ 1) : KL [.int .u64 (x : Nat), .int .u64 (y : Nat), .int .u64 (c : Nat)] = (ob true).bind fun _ => M.pure (.tup [.int .u64 (al0 x y c : Nat), .int .u64 (al1 x y c : Nat)]) := by
 have hd : decide ((0 : Int) ≤ (x : Nat) ∧ (0 : Int) ≤ (y : Nat) ∧ (0 : Int) ≤ (c : Nat) ∧ ((c : Nat) : Int) ≤ 1) = true := decide_eq_true ⟨by omega, by omega, by omega, by omega⟩
 simp only [KL, hd]
 rfl
end Go.Am
set_option linter.unusedSimpArgs false
set_option linter.unusedVariables false
set_option linter.defProp false
namespace Go.Am
open Go
end Go.Am
set_option linter.unusedSimpArgs false
set_option linter.unusedVariables false
set_option linter.defProp false
namespace Go.Am
open Go Go.RowKit
variable {E : Env} {fn : FuncId} {rnd : Option Nat} {Q : fC} {ks : List Kf} {tm : List a9} {h : Hp} {n : Nat} {ops bH : List Oper} {d : Option Tmp}
def FK (k : IntKind) (m : Nat) (g : Nat → Int) : List a9 := (List.range m).map fun j => .int k (g j)
theorem FJ (k : IntKind) {m j : Nat} (g : Nat → Int) (hj : j < m) : (FK k m g)[j]? = some (.int k (g j)) := by
 unfold FK
 rw [List.getElem?_map, List.getElem?_range hj]; rfl
theorem UN (xs : List a9) (v : a9) : ∀ (i j : Nat), (put xs i v)[j]? = if j = i ∧ i < xs.length then some v else xs[j]? := by
 induction xs with
 | nil => intro i j; simp [put]
 | cons a xs ih =>
  intro i j
  cases i with
  | zero => cases j <;> simp [put]
  | succ i =>
   cases j with
   | zero => simp [put]
   | succ j => simp only [put, List.getElem?_cons_succ, ih i j, List.length_cons]; simp
def vZ (k : IntKind) (h : Hp) (v : a9) (id off m tot : Nat) (g : Nat → Int) : Prop := (∃ cap, v = .sl id off m cap 1) ∧ off + m ≤ tot ∧ ∃ e, h id = some (.row (.l (FK k tot g)) e)
theorem vZ.aS {k : IntKind} {v : a9} {id off m tot : Nat} {g : Nat → Int} {h' : Hp} (hi : vZ k h v id off m tot g) (hk : h' id = h id) : vZ k h' v id off m tot g := by
 obtain ⟨a, b, e, c⟩ := hi
 exact ⟨a, b, e, hk.trans c⟩
theorem vZ.upd {k : IntKind} {v : a9} {id off m tot i : Nat} {g : Nat → Int} {b : Option Blk} (hi : vZ k h v id off m tot g) (hk : id ≠ i) : vZ k (Go.Am.upd h i b) v id off m tot g := hi.aS (aG _ _ hk)
theorem vZ.len {k : IntKind} {v : a9} {id off m tot : Nat} {g : Nat → Int} (hi : vZ k h v id off m tot g) {t e : TypeId} {ts : List TypeId} (ht : und E t = M.pure (.slice e)) : dD E (t :: ts) v = M.pure (.int .i64 (m : Nat)) := by
 obtain ⟨⟨cap, rfl⟩, _⟩ := hi
 simp only [dD, ht, aB, lenOf]
theorem vZ.idx {k : IntKind} {v : a9} {id off m tot : Nat} {g : Nat → Int} (hi : vZ k h v id off m tot g) {t e : TypeId} (ht : und E t = M.pure (.slice e)) (he : sizeOf E e = M.pure 1) {kk : IntKind} {z : Int} {j : Nat} (hz : z = (j : Nat)) (hj : j < m) {h' : Hp} {n' : Nat} : Rd (indexAddr E t v (.int kk z)) h' n' [] (.ptr id (off + j)) := by
 obtain ⟨⟨cap, rfl⟩, _⟩ := hi
 subst hz
 simp only [indexAddr, ht, he, aB, dC, slK, Go.Am.idx, bind_assoc, Nat.beq_refl, Int.toNat_natCast, Nat.mul_one]
 exact Rd.bind (i2 := []) (Rd.ob (by simp; omega)) (Rd.pure _)
theorem vZ.load {k : IntKind} {v : a9} {id off m tot : Nat} {g : Nat → Int} (hi : vZ k h v id off m tot g) {e : TypeId} {i : TI} (he : ti E e = M.pure i) (ha : dT i.desc = false) {j : Nat} (hj : j < m) : Rd (load E e (.ptr id (off + j))) h n [id] (.int k (g (off + j))) := by
 obtain ⟨_, b, e', c⟩ := hi
 exact HG c (FJ k g (by omega)) he ha
def bit (a j : Nat) : Int := ((a / 2 ^ j % 2 : Nat) : Int)
end Go.Am
set_option linter.unusedSimpArgs false
set_option linter.unusedVariables false
set_option linter.defProp false
namespace Go.Am
open Go Go.RowKit
variable {E : Env} {fn : FuncId} {rnd : Option Nat} {Q : fC} {ks : List Kf} {tm : List a9} {h : Hp} {n : Nat} {ops bH : List Oper} {d : Option Tmp}
def Row (h : Hp) (id : Nat) (xs : List a9) : Prop := ∃ e, h id = some (.row (.l xs) e)
theorem Row.aS {h h' : Hp} {id : Nat} {xs : List a9} (hr : Row h id xs) (hk : h' id = h id) : Row h' id xs := by
 obtain ⟨e, he⟩ := hr
 exact ⟨e, hk.trans he⟩
theorem Row.upd {h : Hp} {id i : Nat} {xs : List a9} {b : Option Blk} (hr : Row h id xs) (hk : id ≠ i) : Row (Go.Am.upd h i b) id xs := hr.aS (aG _ _ hk)
theorem Row.new (h : Hp) (id : Nat) (xs : List a9) (e : TypeId) : Row (Go.Am.upd h id (some (.row (.l xs) e))) id xs := ⟨e, aP _ _ _⟩
def cH (xs : List a9) (off : Nat) (vs : List a9) : List a9 := xs.take off ++ (vs ++ xs.drop (off + vs.length))
theorem fY {xs vs : List a9} {off : Nat} (h : off + vs.length ≤ xs.length) : (cH xs off vs).length = xs.length := by
 unfold cH
 simp only [List.length_append, List.length_take, List.length_drop]
 omega
theorem eL {xs vs : List a9} (h : vs.length = xs.length) : cH xs 0 vs = vs := by
 unfold cH
 rw [List.take_zero, List.nil_append, Nat.zero_add, h, List.drop_length, List.append_nil]
theorem qL {xs vs : List a9} {off : Nat} (h : off + vs.length ≤ xs.length) (j : Nat) : (cH xs off vs)[j]? = if off ≤ j ∧ j < off + vs.length then vs[j - off]? else xs[j]? := by
 unfold cH
 by_cases a : j < off
 ·rw [if_neg (by omega), List.getElem?_append_left (by rw [List.length_take]; omega), List.getElem?_take, if_pos a]
 ·rw [List.getElem?_append_right (by rw [List.length_take]; omega), List.length_take, Nat.min_eq_left (by omega)]
  by_cases b : j < off + vs.length
  ·rw [if_pos (by omega), List.getElem?_append_left (by omega)]
  ·rw [if_neg (by omega), List.getElem?_append_right (by omega), List.getElem?_drop]
   congr 1; omega
theorem pL : ∀ (xs : List a9) (j : Nat), j < xs.length → xs[j]? = some (nth xs j .aA)
 | [], j, h => by simp at h
 | a :: xs, 0, _ => rfl
 | a :: xs, j + 1, h => by
  rw [List.getElem?_cons_succ]
  simp only [nth]
  exact pL xs j (by simpa using h)
theorem nH (vs : List a9) : ∀ (xs : List a9) (off : Nat), off + vs.length ≤ xs.length → m4 (.l xs) off vs = .l (cH xs off vs) := by
 induction vs with
 | nil =>
  intro xs off h
  simp [m4, cH]
 | cons v vs ih =>
  intro xs off h
  simp only [List.length_cons] at h
  simp only [m4, bK.set]
  rw [ih (put xs off v) (off + 1) (by rw [GC]; omega)]
  congr 1
  refine List.ext_getElem? fun j => ?_
  rw [qL (by rw [GC]; omega), qL (by simp only [List.length_cons]; omega), UN]
  by_cases a : j = off
  ·subst a
   rw [if_neg (by omega), if_pos (by omega), if_pos (by simp), Nat.sub_self]; rfl
  ·by_cases b : off + 1 ≤ j ∧ j < off + 1 + vs.length
   ·rw [if_pos b, if_pos (by simp only [List.length_cons]; omega), show j - off = (j - (off + 1)) + 1 by omega, List.getElem?_cons_succ]
   ·have : (v :: vs).length = vs.length + 1 := rfl
    rw [if_neg b, if_neg (by omega), if_neg (by omega)]
theorem Row.one {id off : Nat} {t : TypeId} {i : TI} {cs : List a9} {x : a9} (hr : Row h id cs) (hc : cs[off]? = some x) (hi : ti E t = M.pure i) (ha : dT i.desc = false) : Rd (Go.Am.load E t (.ptr id off)) h n [id] x := by
 obtain ⟨e, hh⟩ := hr
 exact HG hh hc hi ha
theorem Row.agg {id off : Nat} {t : TypeId} {i : TI} {cs : List a9} (hr : Row h id cs) (hi : ti E t = M.pure i) (ha : dT i.desc = true) (ho : off + i.size ≤ cs.length) : Rd (Go.Am.load E t (.ptr id off)) h n [id] (.agg ((cs.drop off).take i.size)) := by
 obtain ⟨e, hh⟩ := hr
 simp only [Go.Am.load, hi, aB, ha, aW, bind_assoc]
 refine Rd.bind (i2 := []) (Rd.get hh) ?_
 simp only [cT, bind_assoc, bK.size, bK.sub]
 refine Rd.bind (i2 := []) (Rd.ob (dS ho)) ?_
 exact Rd.pure _
theorem Row.gT {id : Nat} {t : TypeId} {i : TI} {cs : List a9} (hr : Row h id cs) (hi : ti E t = M.pure i) (ha : dT i.desc = true) (ho : cs.length = i.size) : Rd (Go.Am.load E t (.ptr id 0)) h n [id] (.agg cs) := by
 have := hr.agg (n := n) (off := 0) hi ha (by omega)
 rwa [List.drop_zero, ← ho, List.take_length] at this
theorem Row.eZ {id off e : Nat} {t : TypeId} {i : TI} {cs : List a9} {v : a9} (hh : h id = some (.row (.l cs) e)) (hi : ti E t = M.pure i) (hs : v.cells.length = i.size) (ho : off + i.size ≤ cs.length) (hc : v.cells.all bI = true) :
  Wr (tT E t (.ptr id off) v) h n [id] [id] undef (Go.Am.upd h id (some (.row (.l (cH cs off v.cells)) e))) := by
 simp only [tT, Go.Am.store, hi, aB, hs, Nat.beq_refl, eK]
 refine Wr.ret (a := ()) ?_
 refine Wr.bind (rs := []) (Rd.get hh) ?_
 simp only [cT, bK.size]
 refine Wr.bind (rs := []) (i1 := []) (Rd.ob (dS (by omega))) ?_
 simp only [hc]
 rw [nH _ _ _ (by omega)]
 exact Wr.set hh
theorem Wr.wp {α : Type} {m : M α} {rs ws : List Nat} {v : α} {h2 : Hp} (hr : Wr m h n rs ws v h2) : Wp m h n fun a h' n' => a = v ∧ h' = h2 ∧ n' = n := by
 obtain ⟨s', o, e, a, b, c, d, w, g, q⟩ := hr.r _ (mQ h n)
 exact fM.2 ⟨v, s', ⟨e, ⟨o, g, q⟩, c⟩, rfl, a, by rw [b]; rfl⟩
theorem eS {m : M a9} {rs ws : List Nat} {v : a9} {h2 : Hp} (hr : Wr m h n rs ws v h2) :
  OpV E fn rnd Q ks ops bH d tm m h n ↔ Ops E fn rnd Q ks ops bH (bX tm d v) h2 n := kV hr.wp _ _ _ _ _ _ _ _ _
theorem cD {t : TypeId} {i : TI} (hi : ti E t = M.pure i) (hj : dV i.zero = false) :
  OpV E fn rnd Q ks ops bH d tm (bW E t) h n ↔ Ops E fn rnd Q ks ops bH (bX tm d (.ptr n 0)) (Go.Am.upd h n (some (.row (.l i.zero.cells) t))) (n + 1) := by
 simp only [bW, cE, hi, aB, alloc, hj, newRow, bind_assoc, oD, lC]
theorem UH {t e : TypeId} {id off len sz : Nat} {cap : Option Nat} {kk : IntKind} {z : Int} {j : Nat} (ht : und E t = M.pure (.slice e)) (he : sizeOf E e = M.pure sz) (hz : z = (j : Nat)) (hj : j < len) {h' : Hp} {n' : Nat} :
  Rd (indexAddr E t (.sl id off len cap sz) (.int kk z)) h' n' [] (.ptr id (off + j * sz)) := by
 subst hz
 simp only [indexAddr, ht, he, aB, dC, slK, Nat.beq_refl, Go.Am.idx, bind_assoc, Int.toNat_natCast]
 exact Rd.bind (i2 := []) (Rd.ob (by simp; omega)) (Rd.pure _)
theorem QS {t e : TypeId} {off len sz : Nat} {f : Nat → a9} {kk : IntKind} {z : Int} {j : Nat} (ht : und E t = M.pure (.slice e)) (he : sizeOf E e = M.pure sz) (hz : z = (j : Nat)) (hj : j < len) {h' : Hp} {n' : Nat} :
  Rd (indexAddr E t (.isl f sz off len) (.int kk z)) h' n' [] (.ip f (off + len * sz) (off + j * sz)) := by
 subst hz
 simp only [indexAddr, ht, he, aB, dC, slK, Nat.beq_refl, Go.Am.idx, bind_assoc, Int.toNat_natCast]
 exact Rd.bind (i2 := []) (Rd.ob (by simp; omega)) (Rd.pure _)
theorem KY (z : List a9) : ∀ m, (fS z m).length = m * z.length := by
 intro m
 induction m with
 | zero => simp [fS]
 | succ m ih => simp only [fS, List.length_append, ih, Nat.succ_mul]; omega
theorem PF {xs : List a9} (hx : ∀ (j : Nat) (x : a9), xs[j]? = some x → bI x = true) : xs.all bI = true := by
 rw [List.all_eq_true]
 intro x hm
 obtain ⟨j, hj⟩ := List.getElem?_of_mem hm
 exact hx j x hj
theorem dM {t : TypeId} {i : TI} {z : List a9} {v : a9} (hi : ti E t = M.pure i) (hz : z.length = i.size) (hv : v.cells.length = i.size) (h1 : v.cells.all bI = true) (hf : bG h n)
  (hq : ∀ H, Row H n v.cells → (∀ j, j ≠ n → H j = h j) → bG H (n + 1) → Ops E fn rnd Q ks ops bH (bX tm d undef) H (n + 1)) :
  OpV E fn rnd Q ks ops bH d tm (tT E t (.ptr n 0) v) (Go.Am.upd h n (some (.row (.l z) t))) (n + 1) := by
 have hw := Row.eZ (E := E) (v := v) (n := n + 1) (off := 0) (aP h n (some (.row (.l z) t))) hi hv (by omega) h1
 rw [eL (hv.trans hz.symm)] at hw
 rw [eS hw]
 exact hq _ (Row.new _ _ _ _) (fun j hj => by rw [aG _ _ hj, aG _ _ hj]) (hf.new.upd (by omega))
theorem dU {t : TypeId} {i : TI} {v : a9} (hi : ti E t = M.pure i) (hj : dV v = false) (hf : bG h n)
  (hq : ∀ H, Row H n v.cells → (∀ j, j ≠ n → H j = h j) → bG H (n + 1) → Ops E fn rnd Q ks ops bH (bX tm d (.ptr n 0)) H (n + 1)) :
  OpV E fn rnd Q ks ops bH d tm (alloc E t v) h n := by
 simp only [alloc, hj, newRow, hi, aB, bind_assoc, oD, lC]
 exact hq _ (Row.new _ _ _ _) (fun j hj => aG _ _ hj) hf.new
def only (S : Nat → Bool) (h : Hp) : Hp := fun j => match S j with
 | true => h j
 | false => none
theorem gW {S : Nat → Bool} {h : Hp} {j : Nat} (hj : S j = true) : only S h j = h j := by simp only [only, hj]
theorem nL {S : Nat → Bool} {h : Hp} {j : Nat} (hj : S j = false) : only S h j = none := by simp only [only, hj]
theorem Row.only {S : Nat → Bool} {h : Hp} {id : Nat} {xs : List a9} (hr : Row h id xs) (hs : S id = true) : Row (Go.Am.only S h) id xs := hr.aS (gW hs)
theorem bG.only {S : Nat → Bool} {h : Hp} {n : Nat} (hf : bG h n) : bG (Go.Am.only S h) n := fun id hi => by
 cases hs : S id with
 | true => rw [gW hs]; exact hf id hi
 | false => exact nL hs
theorem EZ {m : M a9} {Q0 : a9 → Hp → Nat → Prop} {S : Nat → Bool} (j : Nat) (hf : bG h n) (hw0 : Wp m (only S h) n Q0) :
  ∃ v s' r w, (kS j m).run (at0 h n) = .ok (v, ⟨j, r, w, n, s'.next⟩) s' ∧ (∃ o, s'.obs = o ++ (at0 h n).obs ∧ o.all id = true) ∧ s'.orc = none ∧ n ≤ s'.next ∧ bG s'.heap.get s'.next ∧
   (∀ id, id ∈ r → S id = true) ∧ (∀ id, id ∈ w → S id = true) ∧ (∀ k, k < n → S k = false → s'.heap.get k = h k) ∧
   ∃ hr, Q0 v hr s'.next ∧ (∀ k, S k = true ∨ n ≤ k → s'.heap.get k = hr k) := by
 obtain ⟨v, s0, he0, hq0, hn0, hf0⟩ := fM.1 (hw0.xP hf.only)
 obtain ⟨r, w, o, dd⟩ := m.loc _ _ _ he0.run
 have hrn : ∀ id, id ∈ r → S id = true ∨ New (at0 (only S h) n) s0 id := fun id hid => by
  rcases dd.uX id hid with hh | hh
  ·refine .inl ?_
   cases hs : S id with
   | true => rfl
   | false => exact absurd (nL hs) hh
  ·exact .inr hh
 have hwn : ∀ id, id ∈ w → S id = true ∨ New (at0 (only S h) n) s0 id := fun id hid => by
  rcases dd.eT id hid with hh | hh
  ·refine .inl ?_
   cases hs : S id with
   | true => rfl
   | false => exact absurd (nL hs) hh
  ·exact .inr hh
 have same : ∀ id, S id = true ∨ New (at0 (only S h) n) s0 id → h id = only S h id := fun id hid => by
  rcases hid with hid | hid
  ·rw [gW hid]
  ·rw [hf id hid.1, hf.only id hid.1]
 obtain ⟨t', e, g1, g2, g3, g4, g5, g6, g7⟩ := dd.rP { at0 h n with rds := [], wrs := [] } rfl rfl (fun id hid => by
  refine same id ?_
  rcases hid with hid | hid | hid
  ·exact hrn id hid
  ·exact hwn id hid
  ·exact .inr hid)
 have e' : m.run { at0 h n with rds := [], wrs := [] } = .ok v t' := e
 have hfoot : (kS j m).run (at0 h n) = .ok (v, ⟨j, t'.rds.filter (old n t'.next), t'.wrs.filter (old n t'.next), n, t'.next⟩) { t' with rds := t'.rds ++ (at0 h n).rds, wrs := t'.wrs ++ (at0 h n).wrs } := by
  simp only [kS, mL, e']; rfl
 have hq : ∀ l : List Nat, (∀ id, id ∈ l → S id = true ∨ New (at0 (only S h) n) s0 id) → ∀ id, id ∈ l.filter (old n t'.next) → S id = true := fun l hl id hid => by
  obtain ⟨h1, h2⟩ := List.mem_filter.1 hid
  rcases hl id h1 with q | q
  ·exact q
  ·exfalso
   unfold old at h2
   have q1 : n ≤ id := q.1
   have q2 := q.2
   rw [g1] at h2
   rcases Bool.or_eq_true_iff.1 h2 with a | a
   ·have := Nat.le_of_ble_eq_true a; omega
   ·have := Nat.le_of_ble_eq_true a; omega
 have ho : ∃ o, t'.obs = o ++ (at0 h n).obs ∧ o.all id = true := by
  obtain ⟨o2, ho2, ho3⟩ := he0.obs
  have : o = o2 := by
   have := dd.obs
   rw [ho2] at this
   exact (List.append_cancel_right this).symm
  exact ⟨o, g5, by rw [this]; exact ho3⟩
 have g3' : t'.rds = r := by rw [g3]; exact List.append_nil _
 have g4' : t'.wrs = w := by rw [g4]; exact List.append_nil _
 refine ⟨v, { t' with rds := t'.rds ++ (at0 h n).rds, wrs := t'.wrs ++ (at0 h n).wrs }, _, _, hfoot, ho, by show t'.orc = none; rw [g2]; exact he0.oc, by show n ≤ t'.next; rw [g1]; exact hn0, ?_, ?_, ?_, ?_, s0.heap.get, ?_, ?_⟩
 ·intro id hid
  show t'.heap.get id = none
  have hid' : s0.next ≤ id := by rw [← g1]; exact hid
  by_cases c : id ∈ w
  ·rw [g6 id (.inl c)]; exact hf0 id hid'
  ·have c2 : ¬ New (at0 (only S h) n) s0 id := fun q => by have := q.2; omega
   rw [g7 id c c2]
   exact hf id (by omega)
 ·exact hq _ (by rw [g3']; exact hrn)
 ·exact hq _ (by rw [g4']; exact hwn)
 ·intro k hk hs
  show t'.heap.get k = h k
  refine (g7 k (fun q => ?_) (fun q => ?_))
  ·rcases hwn k q with q | q
   ·rw [hs] at q; cases q
   ·have q1 : n ≤ k := q.1; omega
  ·have q1 : n ≤ k := q.1; omega
 ·rw [show ({ t' with rds := t'.rds ++ (at0 h n).rds, wrs := t'.wrs ++ (at0 h n).wrs } : St).next = s0.next from g1]
  exact hq0
 ·intro k hk
  show t'.heap.get k = s0.heap.get k
  by_cases c : k ∈ w ∨ New (at0 (only S h) n) s0 k
  ·exact g6 k c
  ·simp only [not_or] at c
   rw [g7 k c.1 c.2, dd.bH k c.1 c.2]
   show h k = only S h k
   rcases hk with hk | hk
   ·rw [gW hk]
   ·rw [hf k hk, hf.only k hk]
theorem uP {j : Nat} {fs : List gN} {m : M a9} {Q0 : a9 → Hp → Nat → Prop} (S : Nat → Bool) (hf : bG h n) (hw0 : Wp m (only S h) n Q0)
  (hq : ∀ v h' n' r w hr, n ≤ n' → bG h' n' → Q0 v hr n' → (∀ k, S k = true ∨ n ≤ k → h' k = hr k) → (∀ k, k < n → S k = false → h' k = h k) → (∀ id, id ∈ r → S id = true) → (∀ id, id ∈ w → S id = true) →
   Fe E fn rnd Q ks ops (j + 1) bH (bX tm d v) (⟨j, r, w, n, n'⟩ :: fs) h' n') : FeV E fn rnd Q ks ops j bH d tm fs m h n := by
 unfold FeV
 obtain ⟨v, s', r, w, h1, h2, h3, h4, h5, h6, h7, h8, hr, h9, h10⟩ := EZ j hf hw0
 exact fM.2 ⟨_, _, ⟨h1, h2, h3⟩, hq v _ _ r w hr h4 h5 h9 h10 h8 h6 h7⟩
theorem IG {x : Nat} {w : List Nat} (h : x ∉ w) : jJ [x] w = false := by
 unfold jJ
 rw [List.any_cons, List.any_nil, Bool.or_false, List.any_eq_false]
 intro y hy
 rw [kU (fun e => h (by rw [e]; exact hy))]; simp
theorem EI {x : Nat} {w : List Nat} (h : x ∉ w) : jJ w [x] = false := by
 unfold jJ
 rw [List.any_eq_false]
 intro y hy
 rw [List.any_cons, List.any_nil, Bool.or_false, kU (fun e => h (by rw [← e]; exact hy))]; simp
theorem CY {x : Nat} {f : gN} (h : x < f.lo ∨ f.hi ≤ x) : lL [x] f = false := by
 unfold lL
 cases f.lo.beq f.hi with
 | true => rfl
 | false =>
  simp only [List.any_cons, List.any_nil, Bool.or_false, within]
  rcases h with h | h
  ·rw [iL (by omega)]; rfl
  ·rw [show x.blt f.hi = false from iL (by omega), Bool.and_false]
theorem O7 {i j a b m x : Nat} {r w : List Nat} (h : x < a ∨ b ≤ x) (hx : x ∉ w) : gC ⟨i, [x], [], m, m⟩ ⟨j, r, w, a, b⟩ = false := by
 unfold gC
 simp only [lT, IG hx, CY (x := x) (f := ⟨j, r, w, a, b⟩) h, mJ, nQ, Bool.or_false]
theorem O8 {i j a b m x : Nat} {r w : List Nat} (h : x < a ∨ b ≤ x) (hx : x ∉ w) : gC ⟨j, r, w, a, b⟩ ⟨i, [x], [], m, m⟩ = false := by
 unfold gC
 simp only [kQ, EI hx, CY (x := x) (f := ⟨j, r, w, a, b⟩) h, mJ, nQ, Bool.or_false]
theorem Wp.frame {α : Type} {m : M α} {Q0 : α → Hp → Nat → Prop} (S : Nat → Bool) (hf : bG h n) (hw0 : Wp m (only S h) n Q0) :
  Wp m h n fun v h' n' => n ≤ n' ∧ bG h' n' ∧ (∀ k, k < n → S k = false → h' k = h k) ∧ ∃ hr, Q0 v hr n' ∧ (∀ k, S k = true ∨ n ≤ k → h' k = hr k) := by
 obtain ⟨v, s0, he0, hq0, hn0, hf0⟩ := fM.1 (hw0.xP hf.only)
 obtain ⟨r, w, o, dd⟩ := m.loc _ _ _ he0.run
 have hrn : ∀ id, id ∈ r → S id = true ∨ New (at0 (only S h) n) s0 id := fun id hid => by
  rcases dd.uX id hid with hh | hh
  ·refine .inl ?_
   cases hs : S id with
   | true => rfl
   | false => exact absurd (nL hs) hh
  ·exact .inr hh
 have hwn : ∀ id, id ∈ w → S id = true ∨ New (at0 (only S h) n) s0 id := fun id hid => by
  rcases dd.eT id hid with hh | hh
  ·refine .inl ?_
   cases hs : S id with
   | true => rfl
   | false => exact absurd (nL hs) hh
  ·exact .inr hh
 have same : ∀ id, S id = true ∨ New (at0 (only S h) n) s0 id → h id = only S h id := fun id hid => by
  rcases hid with hid | hid
  ·rw [gW hid]
  ·rw [hf id hid.1, hf.only id hid.1]
 obtain ⟨t', e, g1, g2, g3, g4, g5, g6, g7⟩ := dd.rP (at0 h n) rfl rfl (fun id hid => by
  refine same id ?_
  rcases hid with hid | hid | hid
  ·exact hrn id hid
  ·exact hwn id hid
  ·exact .inr hid)
 have ho : ∃ o, t'.obs = o ++ (at0 h n).obs ∧ o.all id = true := by
  obtain ⟨o2, ho2, ho3⟩ := he0.obs
  have : o = o2 := by
   have := dd.obs
   rw [ho2] at this
   exact (List.append_cancel_right this).symm
  exact ⟨o, g5, by rw [this]; exact ho3⟩
 refine fM.2 ⟨v, t', ⟨e, ho, by rw [g2]; exact he0.oc⟩, by rw [g1]; exact hn0, ?_, ?_, s0.heap.get, ?_, ?_⟩
 ·intro id hid
  have hid' : s0.next ≤ id := by rw [← g1]; exact hid
  by_cases c : id ∈ w
  ·rw [g6 id (.inl c)]; exact hf0 id hid'
  ·have c2 : ¬ New (at0 (only S h) n) s0 id := fun q => by have := q.2; omega
   rw [g7 id c c2]
   exact hf id (by omega)
 ·intro k hk hs
  refine (g7 k (fun q => ?_) (fun q => ?_))
  ·rcases hwn k q with q | q
   ·rw [hs] at q; cases q
   ·have q1 : n ≤ k := q.1; omega
  ·have q1 : n ≤ k := q.1; omega
 ·rw [g1]; exact hq0
 ·intro k hk
  by_cases c : k ∈ w ∨ New (at0 (only S h) n) s0 k
  ·exact g6 k c
  ·simp only [not_or] at c
   rw [g7 k c.1 c.2, dd.bH k c.1 c.2]
   show h k = only S h k
   rcases hk with hk | hk
   ·rw [gW hk]
   ·rw [hf k hk, hf.only k hk]
end Go.Am
set_option linter.unusedSimpArgs false
set_option linter.unusedVariables false
set_option linter.defProp false
namespace Go.Am
open Go Go.RowKit
variable {E : Env} {fn : FuncId} {rnd : Option Nat} {Q : fC} {ks : List Kf} {tm : List a9} {h : Hp} {n : Nat} {ops bH : List Oper} {d : Option Tmp}
inductive Rds (h : Hp) (sz : Nat) : a9 → Nat → List a9 → Prop
 | aV : Rds h sz .aV 0 []
 | emp : Rds h sz .emp 0 []
 | isl (f : Nat → a9) (off cnt : Nat) (xs : List a9) (hl : xs.length = cnt * sz) (hf : ∀ j (hj : j < xs.length), f (off + j) = xs[j]) : Rds h sz (.isl f sz off cnt) cnt xs
 | sl (id off cnt : Nat) (cap : Option Nat) (c : bK) (e : TypeId) (xs : List a9) (hh : h id = some (.row c e)) (hl : xs.length = cnt * sz) (hs : off + xs.length ≤ c.size) (hc : ∀ j (hj : j < xs.length), c.at (off + j) = xs[j]) : Rds h sz (.sl id off cnt cap sz) cnt xs
def rid (v : a9) : List Nat := (bB v).toList
theorem Rds.length {sz cnt : Nat} {v : a9} {xs : List a9} (hr : Rds h sz v cnt xs) : xs.length = cnt * sz := by
 cases hr with
 | aV => simp
 | emp => simp
 | isl f off cnt xs hl hf => exact hl
 | sl id off cnt cap c e xs hh hl hs hc => exact hl
theorem Rds.len {sz cnt : Nat} {v : a9} {xs : List a9} (hr : Rds h sz v cnt xs) : lenOf v = M.pure cnt := by cases hr <;> rfl
theorem Rds.dD {sz cnt : Nat} {v : a9} {xs : List a9} (hr : Rds h sz v cnt xs) {t : TypeId} {ts : List TypeId} {e : TypeId} (ht : und E t = M.pure (.slice e)) : dD E (t :: ts) v = M.pure (.int .i64 (cnt : Nat)) := by
 cases hr <;> simp only [Am.dD, ht, aB, lenOf] <;> rfl
theorem Rds.kind {sz cnt : Nat} {v : a9} {xs : List a9} (hr : Rds h sz v cnt xs) : v.cells = [v] ∧ bI v = true ∧ dV v = false := by cases hr <;> exact ⟨rfl, rfl, rfl⟩
theorem Rds.aS {sz cnt : Nat} {v : a9} {xs : List a9} {h' : Hp} (hr : Rds h sz v cnt xs) (hk : ∀ j, bB v = some j → h' j = h j) : Rds h' sz v cnt xs := by
 cases hr with
 | aV => exact .aV
 | emp => exact .emp
 | isl f off cnt xs hl hf => exact .isl f off cnt xs hl hf
 | sl id off cnt cap c e xs hh hl hs hc => exact .sl id off cnt cap c e xs ((hk id rfl).trans hh) hl hs hc
theorem Rds.idx {sz cnt : Nat} {v : a9} {xs : List a9} (hr : Rds h sz v cnt xs) {t e : TypeId} (ht : und E t = M.pure (.slice e)) (he : sizeOf E e = M.pure sz) {kk : IntKind} {z : Int} {j : Nat} (hz : z = (j : Nat)) (hj : j < cnt) {h' : Hp} {n' : Nat} :
  Rd (indexAddr E t v (.int kk z)) h' n' [] (dB (j * sz) v) := by
 cases hr with
 | aV => omega
 | emp => omega
 | isl f off cnt xs hl hf => exact QS ht he hz hj
 | sl id off cnt cap c e xs hh hl hs hc => exact UH ht he hz hj
theorem qS {v : a9} {sz cnt : Nat} {xs : List a9} (hr : Rds h sz v cnt xs) (hc : 0 < cnt) (k m : Nat) : aQ m (dB k v) = M.pure (dB (k + m) v) := by
 cases hr with
 | aV => omega
 | emp => omega
 | isl f off cnt xs hl hf => simp only [dB, aQ, Nat.add_assoc]
 | sl id off cnt cap c e xs hh hl hs hc => simp only [dB, aQ, Nat.add_assoc]
theorem Rds.load {sz cnt : Nat} {v : a9} {xs : List a9} (hr : Rds h sz v cnt xs) {t : TypeId} {i : TI} (hi : ti E t = M.pure i) (ha : dT i.desc = false) {k : Nat} {x : a9} (hx : xs[k]? = some x) :
  Rd (load E t (dB k v)) h n (rid v) x := by
 obtain ⟨hk, hx⟩ := List.getElem?_eq_some_iff.1 hx
 cases hr with
 | aV => simp at hk
 | emp => simp at hk
 | isl f off cnt xs hl hf =>
  simp only [Go.Am.load, hi, aB, ha, aW, bind_assoc, dB]
  refine Rd.bind (i1 := []) (i2 := []) (Rd.ob (dS (by omega))) ?_
  rw [vJ, hf k hk, hx]
  exact Rd.pure _
 | sl id off cnt cap c e xs hh hl hs hc =>
  simp only [Go.Am.load, hi, aB, ha, aW, bind_assoc, dB]
  refine Rd.bind (i1 := [id]) (i2 := []) (Rd.get hh) ?_
  simp only [cT, bind_assoc]
  refine Rd.bind (i1 := []) (i2 := []) (Rd.ob (dS (by omega))) ?_
  rw [bK.mS (by omega), hc k hk, hx]
  exact Rd.pure _
theorem Rds.agg {sz cnt : Nat} {v : a9} {xs : List a9} (hr : Rds h sz v cnt xs) {t : TypeId} {i : TI} (hi : ti E t = M.pure i) (ha : dT i.desc = true) (hz : 0 < i.size) {k : Nat} (hk : k + i.size ≤ xs.length) :
  Rd (Go.Am.load E t (dB k v)) h n (rid v) (.agg ((xs.drop k).take i.size)) := by
 have hlen : ((xs.drop k).take i.size).length = i.size := by rw [List.length_take, List.length_drop]; omega
 have hget : ∀ j (hj : j < ((xs.drop k).take i.size).length), ((xs.drop k).take i.size)[j] = xs[k + j]'(by omega) := fun j hj => by simp
 cases hr with
 | aV => simp at hk; omega
 | emp => simp at hk; omega
 | isl f off cnt xs hl hf =>
  simp only [Go.Am.load, hi, aB, ha, aW, bind_assoc, dB]
  refine Rd.bind (i1 := []) (i2 := []) (Rd.ob (dS (by omega))) ?_
  rw [jQ f i.size (off + k) ((xs.drop k).take i.size) hlen (fun j hj => by rw [Nat.add_assoc, hf (k + j) (by omega), hget j hj])]
  exact Rd.pure _
 | sl id off cnt cap c e xs hh hl hs hc =>
  simp only [Go.Am.load, hi, aB, ha, aW, bind_assoc, dB]
  refine Rd.bind (i1 := [id]) (i2 := []) (Rd.get hh) ?_
  simp only [cT, bind_assoc]
  refine Rd.bind (i1 := []) (i2 := []) (Rd.ob (dS (by omega))) ?_
  have := bK.pE (c := c) (off := off + k) (l := (xs.drop k).take i.size) (by omega) (fun j hj => by rw [Nat.add_assoc, hc (k + j) (by omega), hget j hj])
  rw [hlen] at this
  rw [this]
  exact Rd.pure _
theorem Rds.cells {sz cnt : Nat} {v : a9} {xs : List a9} (hr : Rds h sz v cnt xs) : Rd (dQ sz cnt v) h n (rid v) xs := by
 cases hr with
 | aV => exact Rd.bind (i1 := []) (i2 := []) (Rd.ob rfl) (Rd.pure _)
 | emp => exact Rd.bind (i1 := []) (i2 := []) (Rd.ob rfl) (Rd.pure _)
 | isl f off cnt xs hl hf =>
  simp only [dQ, bE, Nat.beq_refl]
  refine Rd.bind (i1 := []) (i2 := []) (Rd.ob (dS (Nat.le_refl _))) ?_
  rw [jQ f (cnt * sz) off xs hl (fun j hj => hf j hj)]
  exact Rd.pure _
 | sl id off cnt cap c e xs hh hl hs hc =>
  simp only [dQ, bE, Nat.beq_refl]
  refine Rd.bind (i1 := [id]) (i2 := []) (Rd.get hh) ?_
  simp only [cT]
  refine Rd.bind (i1 := []) (i2 := []) (Rd.ob (dS (Nat.le_refl _))) ?_
  refine Rd.bind (i1 := []) (i2 := []) (Rd.ob (dS (by omega))) ?_
  have := bK.pE (c := c) (off := off) (l := xs) hs hc
  rw [← hl, this]
  exact Rd.pure _
theorem Bytes.rds {v : a9} {l : List UInt8} (hb : Bytes h v l) : Rds h 1 v l.length (l.map u8) := by
 cases hb with
 | aV => exact .aV
 | isl f off l hf => exact .isl f off _ _ (by simp) (fun j hj => by rw [List.getElem_map]; exact hf j (by simpa using hj))
 | sl id off cap c e l hh hs hc => exact .sl id off _ cap c e _ hh (by simp) (by simpa using hs) (fun j hj => by rw [List.getElem_map]; exact hc j (by simpa using hj))
theorem Rds.bytes {v : a9} {cnt : Nat} {l : List UInt8} (hr : Rds h 1 v cnt (l.map u8)) (hn : v ≠ .emp) : Bytes h v l := by
 have hl := hr.length
 rw [List.length_map, Nat.mul_one] at hl
 generalize hx : l.map u8 = xs at hr
 cases hr with
 | aV =>
  have : l = [] := by simpa using hx
  subst this; exact .aV
 | emp => exact absurd rfl hn
 | isl f off cnt xs hl2 hf =>
  subst hl
  exact .isl f off l (fun j hj => by subst hx; rw [hf j (by simpa using hj), List.getElem_map])
 | sl id off cnt cap c e xs hh hl2 hs hc =>
  subst hl
  exact .sl id off cap c e l hh (by subst hx; simpa using hs) (fun j hj => by subst hx; rw [hc j (by simpa using hj), List.getElem_map])
inductive Lst (h : Hp) (e : TypeId) (sz : Nat) : a9 → Nat → List a9 → Prop
 | nil : Lst h e sz .aV 0 []
 | sl (id cnt : Nat) (cap : Option Nat) (cells xs : List a9) (hh : h id = some (.row (.l cells) e)) (hl : cnt * sz ≤ cells.length) (hc : ∀ k, cap = some k → cnt ≤ k ∧ k * sz ≤ cells.length) (hx : cells.take (cnt * sz) = xs) : Lst h e sz (.sl id 0 cnt cap sz) cnt xs
theorem Lst.rds {e : TypeId} {sz cnt : Nat} {v : a9} {xs : List a9} (ho : Lst h e sz v cnt xs) : Rds h sz v cnt xs := by
 cases ho with
 | nil => exact .aV
 | sl id cnt cap cells xs hh hl hc hx =>
  subst hx
  refine .sl id 0 cnt cap (.l cells) e _ hh (by rw [List.length_take]; omega) (by rw [List.length_take]; show 0 + _ ≤ cells.length; omega) (fun j hj => ?_)
  rw [List.length_take] at hj
  rw [Nat.zero_add, bK.vW (by omega), List.getElem_take]
theorem Lst.aS {e : TypeId} {sz cnt : Nat} {v : a9} {xs : List a9} {h' : Hp} (ho : Lst h e sz v cnt xs) (hk : ∀ j, bB v = some j → h' j = h j) : Lst h' e sz v cnt xs := by
 cases ho with
 | nil => exact .nil
 | sl id cnt cap cells xs hh hl hc hx => exact .sl id cnt cap cells xs ((hk id rfl).trans hh) hl hc hx
theorem Lst.eT {e : TypeId} {sz cnt : Nat} {v : a9} {xs : List a9} (ho : Lst h e sz v cnt xs) (hf : bG h n) {j : Nat} (hj : bB v = some j) : j < n := by
 cases ho with
 | nil => cases hj
 | sl id cnt cap cells xs hh hl hc hx =>
  injection hj with hj
  subst hj
  by_cases q : id < n
  ·exact q
  ·rw [hf id (by omega)] at hh; cases hh
theorem B8 {e : TypeId} {sz cnt : Nat} {cap : Option Nat} {xs : List a9} {id : Nat} (hh : h id = some (.row (.l xs) e)) (hl : xs.length = cnt * sz) (hc : ∀ k, cap = some k → k = cnt) : Lst h e sz (.sl id 0 cnt cap sz) cnt xs :=
 .sl id cnt cap xs xs hh (by omega) (fun k hk => by have := hc k hk; subst this; omega) (by rw [← hl, List.take_length])
theorem pD {xs ys : List a9} {a : Nat} (h : a + ys.length ≤ xs.length) : (cH xs a ys).take (a + ys.length) = xs.take a ++ ys := by
 unfold cH
 rw [← List.append_assoc, List.take_append_of_le_length (by rw [List.length_append, List.length_take]; omega), List.take_of_length_le (by rw [List.length_append, List.length_take]; omega)]
theorem fL {α β : Type} {m : M α} {f : α → M β} {ids : List Nat} {a : α} {Q2 : β → Hp → Nat → Prop} (hr : Rd m h n ids a) (hw : Wp (f a) h n Q2) : Wp (m.bind f) h n Q2 :=
 AO (dL hr.wp fun a' h' n' ⟨e1, e2, e3⟩ => by subst e1; subst e2; subst e3; exact hw)
theorem nB {Q1 : a9 → Hp → Nat → Prop} {t t2 e : TypeId} {i : TI} {s x : a9} {cnt k : Nat} {xs ys : List a9} (hs : Lst h e i.size s cnt xs) (hx : Rds h i.size x k ys)
  (ht : und E t = M.pure (.slice e)) (ht2 : und E t2 = M.pure (.slice e)) (hi : ti E e = M.pure i) (hy : ys.all bI = true) (hz : 0 < i.size)
  (hroom : 2 * (cnt + k) * i.bytes ≤ 281474976710656) (hroom2 : cnt + k ≤ 281474976710656) (hf : bG h n)
  (hq : ∀ v' h' n', n ≤ n' → bG h' n' → Lst h' e i.size v' (cnt + k) (xs ++ ys) → (bB v' = bB s ∨ bB v' = some n ∧ n < n') → (∀ j, j < n → bB s ≠ some j → h' j = h j) → Q1 v' h' n') :
  Wp (gH E [t, t2] s x) h n Q1 := by
 have hyl := hx.length
 simp only [gH, ht2, aB, eJ, append, ht, hi, hx.len, bind_assoc, hU]
 by_cases hk : k = 0
 ·subst hk
  have hy0 : ys = [] := List.eq_nil_of_length_eq_zero (by omega)
  subst hy0
  have key : Lst h e i.size s (cnt + 0) (xs ++ []) := by rw [List.append_nil]; exact hs
  have := hq s h n (Nat.le_refl _) hf key (.inl rfl) (fun _ _ _ => rfl)
  rw [Nat.beq_refl]
  cases hs <;> exact aM.2 this
 have hk0 : k.beq 0 = false := kU hk
 have hkz : 0 < k * i.size := Nat.mul_pos (by omega) hz
 simp only [hk0]
 refine fL hx.cells ?_
 have r1 : ((2 * (cnt + k) * i.bytes).ble room && (cnt + k).ble room) = true := by
  unfold room
  rw [dS hroom, dS hroom2]; rfl
 have tK : ∀ h1 : Hp, (∀ j, n ≤ j → h1 j = none) → (∀ j, j < n → bB s ≠ some j → h1 j = h j) → xs.length = cnt * i.size → Q1 (.sl n 0 (cnt + k) none i.size) (upd h1 n (some (.row (.l (xs ++ ys)) e))) (n + 1) := fun h1 hf1 ho1 hxl => by
  refine hq _ _ _ (by omega) (bG.new hf1) (B8 (aP _ _ _) (by rw [List.length_append, hxl, hyl, Nat.add_mul]) (fun k hk => by cases hk)) (.inr ⟨rfl, by omega⟩) (fun j hj hn => ?_)
  rw [aG _ _ (by omega)]; exact ho1 j hj hn
 cases hs with
 | nil =>
  rw [Nat.zero_add] at r1
  simp only [iS, fP, hO, aM, r1, true_and]
  have := tK h hf (fun _ _ _ => rfl) (by simp)
  simpa using this
 | sl id cnt cap cells xs hh hl hc hxs =>
  have hid : id < n := by
   by_cases q : id < n
   ·exact q
   ·rw [hf id (by omega)] at hh; cases hh
  have hxl : xs.length = cnt * i.size := by rw [← hxs, List.length_take]; omega
  have inplace : (cnt + k) * i.size ≤ cells.length → ∀ cap', (∀ j, cap' = some j → cnt + k ≤ j ∧ j * i.size ≤ cells.length) →
    Q1 (.sl id 0 (cnt + k) cap' i.size) (upd h id (some (.row (.l (cH cells (cnt * i.size) ys)) e))) n := fun hfit cap' hcap' => by
   rw [Nat.add_mul] at hfit
   have hsl := fY (xs := cells) (vs := ys) (off := cnt * i.size) (by omega)
   refine hq _ _ _ (Nat.le_refl _) (hf.upd hid) (.sl id (cnt + k) cap' _ _ (aP _ _ _) (by rw [hsl, Nat.add_mul]; omega) (fun j hj => by rw [hsl]; exact hcap' j hj) ?_) (.inl rfl) (fun j hj hn => aG _ _ (fun q => hn (by rw [q]; rfl)))
   rw [Nat.add_mul, ← hyl, pD (by omega), hxs]
  have hwr : ∀ {β : Type} (f : Unit → M β) (Q2 : β → Hp → Nat → Prop), (cnt + k) * i.size ≤ cells.length → Wp (f ()) (upd h id (some (.row (.l (cH cells (cnt * i.size) ys)) e))) n Q2 → Wp ((eK (.ptr id (0 + cnt * i.size)) ys).bind f) h n Q2 := fun f Q2 hfit hw => by
   rw [Nat.add_mul] at hfit
   have hb : (cnt * i.size + ys.length).ble cells.length = true := dS (by omega)
   simp only [eK, Nat.zero_add, bind_assoc, fW, hh, Option.some.injEq, exists_eq_left', cT, fP, bK.size, hb, hy, nZ, true_and]
   rw [nH _ _ _ (by omega)]
   exact ⟨by simp, hw⟩
  have hrd : ∀ {β : Type} (f : List a9 → M β) (Q2 : β → Hp → Nat → Prop), Wp (f xs) h n Q2 → Wp ((dQ i.size cnt (.sl id 0 cnt cap i.size)).bind f) h n Q2 := fun f Q2 hw => by
   have := (Lst.sl (e := e) (sz := i.size) id cnt cap cells xs hh hl hc hxs).rds.cells (n := n)
   exact fL this hw
  simp only [bE, Nat.beq_refl, fW, hh, Option.some.injEq, exists_eq_left', cT]
  cases cap with
  | none =>
   simp only [hU, Nat.zero_add, bK.size]
   by_cases hfit : (cnt + k) * i.size ≤ cells.length
   ·rw [dS hfit]
    simp only [fP]
    refine ⟨Nat.ble_eq_true_of_le hz, ?_⟩
    have := hwr (fun _ => M.pure (a9.sl id 0 (cnt + k) none i.size)) Q1 hfit (aM.2 (inplace hfit none (fun j hj => by cases hj)))
    rwa [Nat.zero_add] at this
   ·rw [iL hfit]
    simp only [hy, Nat.beq_refl, Bool.and_self]
    refine hrd _ _ ?_
    simp only [qI, iS, fP, hO, aM, r1, true_and, hh]
    refine ⟨by simp, tK (upd h id none) (fun j hj => by rw [aG _ _ (by omega)]; exact hf j hj) (fun j hj hn => aG _ _ (fun q => hn (by rw [q]; rfl))) hxl⟩
  | some m =>
   simp only [hU]
   obtain ⟨hc1, hc2⟩ := hc m rfl
   by_cases hfit : cnt + k ≤ m
   ·have hfit2 : (cnt + k) * i.size ≤ cells.length := Nat.le_trans (Nat.mul_le_mul_right _ hfit) hc2
    rw [dS hfit]
    exact hwr _ _ hfit2 (aM.2 (inplace hfit2 (some m) (fun j hj => by injection hj with hj; subst hj; exact ⟨hfit, hc2⟩)))
   ·rw [iL hfit]
    refine hrd _ _ ?_
    simp only [iS, fP, hO, aM, r1, true_and]
    exact tK h hf (fun _ _ _ => rfl) hxl
theorem j3 {t t2 e : TypeId} {i : TI} {s x : a9} {cnt k : Nat} {xs ys : List a9} (hs : Lst h e i.size s cnt xs) (hx : Rds h i.size x k ys)
  (ht : und E t = M.pure (.slice e)) (ht2 : und E t2 = M.pure (.slice e)) (hi : ti E e = M.pure i) (hy : ys.all bI = true) (hz : 0 < i.size)
  (hroom : 2 * (cnt + k) * i.bytes ≤ 281474976710656) (hroom2 : cnt + k ≤ 281474976710656) (hf : bG h n)
  (hq : ∀ v' h' n', n ≤ n' → bG h' n' → Lst h' e i.size v' (cnt + k) (xs ++ ys) → (bB v' = bB s ∨ bB v' = some n ∧ n < n') → (∀ j, j < n → bB s ≠ some j → h' j = h j) → Ops E fn rnd Q ks ops bH (bX tm d v') h' n') :
  OpV E fn rnd Q ks ops bH d tm (gH E [t, t2] s x) h n := nB hs hx ht ht2 hi hy hz hroom hroom2 hf hq
theorem D6 {xs : List a9} {a b j : Nat} (hj : j < ((xs.drop a).take b).length) : ((xs.drop a).take b)[j] = xs[a + j]'(by rw [List.length_take, List.length_drop] at hj; omega) := by simp
theorem Rds.sub {sz cnt : Nat} {v : a9} {xs : List a9} (hr : Rds h sz v cnt xs) {lo hi : Nat} (h1 : lo ≤ hi) (h2 : hi ≤ cnt) : Rds h sz (lH lo hi v) (hi - lo) ((xs.drop (lo * sz)).take ((hi - lo) * sz)) := by
 have hl := hr.length
 have hm : lo * sz + (hi - lo) * sz ≤ cnt * sz := by rw [← Nat.add_mul]; exact Nat.mul_le_mul_right _ (by omega)
 have hlen : ((xs.drop (lo * sz)).take ((hi - lo) * sz)).length = (hi - lo) * sz := by rw [List.length_take, List.length_drop]; omega
 cases hr with
 | aV =>
  have e1 : hi = 0 := by omega
  have e2 : lo = 0 := by omega
  subst e1; subst e2
  simpa [lH] using Rds.aV
 | emp =>
  have e1 : hi = 0 := by omega
  have e2 : lo = 0 := by omega
  subst e1; subst e2
  simpa [lH] using Rds.emp
 | isl f off cnt xs hl2 hf => exact .isl f _ _ _ hlen (fun j hj => by rw [D6 hj, Nat.add_assoc]; exact hf _ _)
 | sl id off cnt cap c e xs hh hl2 hs hc => exact .sl id _ _ _ c e _ hh hlen (by omega) (fun j hj => by rw [D6 hj, Nat.add_assoc]; exact hc _ _)
theorem Rds.QW {sz cnt : Nat} {v : a9} {xs : List a9} (hr : Rds h sz v cnt xs) (ho : vK v) {t e : TypeId} (ht : und E t = M.pure (.slice e)) (he : sizeOf E e = M.pure sz) {k2 : IntKind} {hi : Nat} {z2 : Int} (e2 : z2 = (hi : Nat)) (h2 : hi ≤ cnt) {n' : Nat} {h' : Hp} :
  Rd (slice E t v none (some (.int k2 z2)) none) h' n' [] (lH 0 hi v) := by
 subst e2
 cases hr with
 | aV =>
  have e1 : hi = 0 := by omega
  subst e1
  simp only [slice, ht, he, aB, dN, dC, bind_assoc]
  exact Rd.bind (i2 := []) (Rd.ob (by simp)) (Rd.pure _)
 | emp =>
  have e1 : hi = 0 := by omega
  subst e1
  simp only [slice, ht, he, aB, dN, dC, bind_assoc]
  exact Rd.bind (i2 := []) (Rd.ob (by simp)) (Rd.pure _)
 | isl f off cnt xs hl hf =>
  simp only [slice, ht, he, aB, dN, dC, bind_assoc, bE, Nat.beq_refl]
  exact Rd.bind (i2 := []) (Rd.ob (by simp; omega)) (Rd.pure _)
 | sl id off cnt cap c e xs hh hl hs hc =>
  cases cap with
  | none =>
   have hle : ((hi : Nat) : Int) ≤ ((cnt : Nat) : Int) := by omega
   simp only [slice, mA, decide_eq_true hle, ht, he, aB, dN, dC, bind_assoc, bE, Nat.beq_refl]
   exact Rd.bind (i2 := []) (Rd.ob (by simp; omega)) (Rd.pure _)
  | some cc =>
   have hcc : cnt ≤ cc := ho
   simp only [slice, mA, ht, he, aB, dN, dC, bind_assoc, bE, Nat.beq_refl]
   exact Rd.bind (i2 := []) (Rd.ob (by simp; omega)) (Rd.pure _)
theorem Rds.G7 {sz cnt : Nat} {v : a9} {xs : List a9} (hr : Rds h sz v cnt xs) {t e : TypeId} (ht : und E t = M.pure (.slice e)) (he : sizeOf E e = M.pure sz) {k1 : IntKind} {lo : Nat} {z1 : Int} (e1 : z1 = (lo : Nat)) (h2 : lo ≤ cnt) {n' : Nat} {h' : Hp} :
  Rd (slice E t v (some (.int k1 z1)) none none) h' n' [] (lH lo cnt v) := by
 subst e1
 cases hr with
 | aV =>
  have e2 : lo = 0 := by omega
  subst e2
  simp only [slice, ht, he, aB, dN, dC, bind_assoc]
  exact Rd.bind (i2 := []) (Rd.ob (by simp)) (Rd.pure _)
 | emp =>
  have e2 : lo = 0 := by omega
  subst e2
  simp only [slice, ht, he, aB, dN, dC, bind_assoc]
  exact Rd.bind (i2 := []) (Rd.ob (by simp)) (Rd.pure _)
 | isl f off cnt xs hl hf =>
  simp only [slice, ht, he, aB, dN, dC, bind_assoc, bE, Nat.beq_refl]
  exact Rd.bind (i2 := []) (Rd.ob (by simp; omega)) (Rd.pure _)
 | sl id off cnt cap c e xs hh hl hs hc =>
  cases cap with
  | none =>
   simp only [slice, mA, ht, he, aB, dN, dC, bind_assoc, bE, Nat.beq_refl]
   exact Rd.bind (i2 := []) (Rd.ob (by simp; omega)) (Rd.pure _)
  | some cc =>
   simp only [slice, mA, ht, he, aB, dN, dC, bind_assoc, bE, Nat.beq_refl]
   exact Rd.bind (i2 := []) (Rd.ob (by simp; omega)) (Rd.pure _)
theorem Lst.SD {e : TypeId} {sz cnt : Nat} {v : a9} {xs : List a9} (ho : Lst h e sz v cnt xs) : vK v := by
 cases ho with
 | nil => trivial
 | sl id cnt cap cells xs hh hl hc hx =>
  cases cap with
  | none => trivial
  | some c => exact (hc c rfl).1
theorem Lst.pre {e : TypeId} {sz cnt : Nat} {v : a9} {xs : List a9} (ho : Lst h e sz v cnt xs) {hi : Nat} (h2 : hi ≤ cnt) : Lst h e sz (lH 0 hi v) hi (xs.take (hi * sz)) := by
 cases ho with
 | nil =>
  have : hi = 0 := by omega
  subst this
  simpa [lH] using Lst.nil
 | sl id cnt cap cells xs hh hl hc hx =>
  have hm := Nat.mul_le_mul_right sz h2
  have xe : cells.take (hi * sz) = xs.take (hi * sz) := by rw [← hx, List.take_take, Nat.min_eq_left hm]
  cases cap with
  | none =>
   simp only [lH, Nat.zero_mul, Nat.add_zero, Nat.sub_zero]
   exact .sl id hi none cells _ hh (by omega) (fun k hk => by cases hk) xe
  | some c =>
   simp only [lH, Nat.zero_mul, Nat.add_zero, Nat.sub_zero]
   have := hc c rfl
   exact .sl id hi (some c) cells _ hh (by omega) (fun k hk => by injection hk with hk; subst hk; exact ⟨by omega, this.2⟩) xe
def y8 (a : Nat) : a9 → a9
 | .sl id off _ _ sz => .sl id off a (some a) sz
 | v => v
theorem Lst.X8 {sz cnt : Nat} {v : a9} {xs : List a9} {e : TypeId} (hr : Lst h e sz v cnt xs) {t : TypeId} (ht : und E t = M.pure (.slice e)) (he : sizeOf E e = M.pure sz) {k1 k2 : IntKind} {a : Nat} {z1 : Int} (e1 : z1 = (a : Nat)) (h2 : a ≤ cnt) {n' : Nat} {h' : Hp} :
  Rd (slice E t v none (some (.int k1 z1)) (some (.int k2 z1))) h' n' [] (y8 a v) := by
 subst e1
 have ro := hr.SD
 cases hr with
 | nil =>
  have e2 : a = 0 := by omega
  subst e2
  simp only [slice, ht, he, aB, dN, dC, bind_assoc]
  exact Rd.bind (i2 := []) (Rd.ob (by simp)) (Rd.bind (i2 := []) (Rd.ob (by simp)) (Rd.pure _))
 | sl id cnt cap cells xs hh hl hc hx =>
  have hb : ((a : Nat) : Int) ≤ ((cap.getD cnt : Nat) : Int) := by
   cases cap with
   | none => simp only [Option.getD_none]; omega
   | some c => have := (hc c rfl).1; simp only [Option.getD_some]; omega
  simp only [slice, ht, he, aB, dN, dC, bind_assoc, bE, Nat.beq_refl, Nat.zero_mul, Nat.add_zero, Nat.sub_zero, Int.toNat_natCast]
  exact Rd.bind (i2 := []) (Rd.ob (decide_eq_true ⟨by omega, hb⟩)) (Rd.bind (i2 := []) (Rd.ob (decide_eq_true ⟨by omega, by omega⟩)) (Rd.pure _))
theorem Lst.cut {e : TypeId} {sz cnt : Nat} {v : a9} {xs : List a9} (ho : Lst h e sz v cnt xs) {a : Nat} (h2 : a ≤ cnt) : Lst h e sz (y8 a v) a (xs.take (a * sz)) := by
 cases ho with
 | nil =>
  have : a = 0 := by omega
  subst this
  simpa [lH, y8] using Lst.nil
 | sl id cnt cap cells xs hh hl hc hx =>
  have hm := Nat.mul_le_mul_right sz h2
  exact .sl id a _ cells _ hh (by omega) (fun k hk => by injection hk with hk; subst hk; exact ⟨Nat.le_refl _, by omega⟩) (by rw [← hx, List.take_take, Nat.min_eq_left hm])
theorem KN {v : a9} {b : Bool} (hv : pM v = M.pure b) {t e : TypeId} (ht : und E t = M.pure (.slice e)) : aU E t v .aV = M.pure b := by
 unfold aU equal
 rw [ht, aB]
 simp only
 rw [hv, aB, cO, aB, Bool.or_true, Bool.and_true]
theorem Lst.DL {e : TypeId} {sz cnt : Nat} {v : a9} {xs : List a9} (ho : Lst h e sz v cnt xs) {t : TypeId} (ht : und E t = M.pure (.slice e)) : binOp E .eql t v .aV = M.pure (.bool (mG v)) ∧ (mG v = true → v = .aV ∧ cnt = 0 ∧ xs = []) := by
 cases ho with
 | nil =>
  refine ⟨?_, fun _ => ⟨rfl, rfl, rfl⟩⟩
  show aR E .eql t .aV .aV = _
  unfold aR
  simp only
  rw [KN cO ht]; rfl
 | sl id cnt cap cells xs hh hl hc hx =>
  refine ⟨?_, fun q => by cases q⟩
  show aR E .eql t (.sl id 0 cnt cap sz) .aV = _
  unfold aR
  simp only
  rw [KN (cR _ _ _ _ _) ht]; rfl
theorem nF {id : Nat} {args : List a9} {l : lE} {Q1 : a9 → Hp → Nat → Prop} (hl : h id = some (.loop l)) (hs : l.state = .ready) (ha : args.length.beq l.params.length = true)
  (hw : Run E l.fn (some id) (fun e tm1 h1 n1 => e = .normal ∧ ∃ l2, h1 id = some (.loop l2) ∧ l2.state = .ready ∧
   Run E l.fn (some id) (fun e2 tm2 h2 n2 => ∃ l3, h2 id = some (.loop l3) ∧
    Q1 (.gY (vC e2)) (Go.Am.upd h2 id (some (.loop { l3 with state := (match vC e2 with | true => .ready | false => .done), pending := uK e2 }))) n2)
    l.body [] tm1 (Go.Am.upd h1 id (some (.loop { l2 with state := .busy }))) n1) l.assign [] (mD l.tmps (l.params.zip args)) h n) :
  Wp (kG E (aY E) (.fn (.yield id) [] []) args) h n Q1 := by
 simp only [kG, sO]
 refine fW.2 ⟨_, hl, ?_⟩
 simp only [cW, ha, hs, dX]
 refine dL hw fun r h1 n1 hr => ?_
 obtain ⟨e, tm1⟩ := r
 obtain ⟨he, l2, hl2, hs2, hb⟩ := hr
 subst he
 refine fW.2 ⟨_, hl2, ?_⟩
 simp only [cW, hs2]
 refine nZ.2 ⟨by rw [hl2]; simp, ?_⟩
 refine dX.2 (dL hb fun r2 h2 n2 hr2 => ?_)
 obtain ⟨e2, tm2⟩ := r2
 obtain ⟨l3, hl3, hq⟩ := hr2
 refine fW.2 ⟨_, hl3, ?_⟩
 simp only [cW]
 refine nZ.2 ⟨by rw [hl3]; simp, ?_⟩
 exact aM.2 hq
theorem RH {j : Nat} {fs : List gN} {t : TypeId} {i : TI} (hi : ti E t = M.pure i) {xs : List a9} {f : Nat → a9} (hf : bG h n)
  (hq : ∀ H r w, H n = some (.row (.l xs) t) → (∀ k, k ≠ n → H k = h k) → bG H (n + 1) → Fe E fn rnd Q ks ops (j + 1) bH (bX tm d (f n)) (⟨j, r, w, n, n + 1⟩ :: fs) H (n + 1)) :
  FeV E fn rnd Q ks ops j bH d tm fs ((newRow E t xs).bind fun id => M.pure (f id)) h n := by
 refine eE hf (Q1 := fun v' h' n' => v' = f n ∧ h' = Go.Am.upd h n (some (.row (.l xs) t)) ∧ n' = n + 1) ?_ fun v' h' n' r w hn hf' hh => ?_
 ·simp only [newRow, hi, aB, hO, aM, bind_assoc, and_self]
 ·obtain ⟨rfl, rfl, rfl⟩ := hh
  exact hq _ r w (aP _ _ _) (fun k hk => aG _ _ hk) hf'
theorem fD {t : TypeId} {i : TI} (hi : ti E t = M.pure i) {xs : List a9} {f : Nat → a9} (hf : bG h n)
  (hq : ∀ H, H n = some (.row (.l xs) t) → (∀ k, k ≠ n → H k = h k) → bG H (n + 1) → Ops E fn rnd Q ks ops bH (bX tm d (f n)) H (n + 1)) :
  OpV E fn rnd Q ks ops bH d tm ((newRow E t xs).bind fun id => M.pure (f id)) h n := by
 simp only [newRow, hi, aB, oD, lC, bind_assoc]
 exact hq _ (aP _ _ _) (fun k hk => aG _ _ hk) hf.new
theorem mV {sz cnt id : Nat} {cap : Option Nat} {xs : List a9} {e : TypeId} (hh : h id = some (.row (.l xs) e)) (hl : xs.length = cnt * sz) : Rds h sz (.sl id 0 cnt cap sz) cnt xs :=
 .sl id 0 cnt cap (.l xs) e xs hh hl (by show 0 + xs.length ≤ xs.length; omega) (fun j hj => by rw [Nat.zero_add, bK.vW hj])
theorem iX {h : Hp} {id : Nat} {b : Option Blk} (e : h id = b) : Go.Am.upd h id b = h := funext fun j => by
 by_cases q : j = id
 ·subst q; rw [aP, e]
 ·rw [aG _ _ q]
theorem AP {Q1 : a9 → Hp → Nat → Prop} {t t2 e e' : TypeId} {i : TI} {x : a9} {id cnt k : Nat} {cap : Option Nat} {cells ys : List a9} (hh : h id = some (.row (.l cells) e')) (hx : Rds h i.size x k ys)
  (ht : und E t = M.pure (.slice e)) (ht2 : und E t2 = M.pure (.slice e)) (hi : ti E e = M.pure i) (hy : ys.all bI = true) (hz : 0 < i.size)
  (hfit : (cnt + k) * i.size ≤ cells.length) (hcap : ∀ m, cap = some m → cnt + k ≤ m)
  (hq : Q1 (.sl id 0 (cnt + k) cap i.size) (Go.Am.upd h id (some (.row (.l (cH cells (cnt * i.size) ys)) e'))) n) :
  Wp (gH E [t, t2] (.sl id 0 cnt cap i.size) x) h n Q1 := by
 have hyl := hx.length
 simp only [gH, ht2, aB, eJ, append, ht, hi, hx.len, bind_assoc, hU]
 by_cases hk : k = 0
 ·subst hk
  have hy0 : ys = [] := List.eq_nil_of_length_eq_zero (by omega)
  subst hy0
  have hs : cH cells (cnt * i.size) [] = cells := by unfold cH; simp
  rw [hs, iX hh, Nat.add_zero] at hq
  simp only [Nat.beq_refl]
  exact aM.2 hq
 simp only [kU hk]
 refine fL hx.cells ?_
 have hwr : ∀ {β : Type} (f : Unit → M β) (Q2 : β → Hp → Nat → Prop), Wp (f ()) (Go.Am.upd h id (some (.row (.l (cH cells (cnt * i.size) ys)) e'))) n Q2 → Wp ((eK (.ptr id (0 + cnt * i.size)) ys).bind f) h n Q2 := fun f Q2 hw => by
  rw [Nat.add_mul] at hfit
  have hb : (cnt * i.size + ys.length).ble cells.length = true := dS (by omega)
  simp only [eK, Nat.zero_add, bind_assoc, fW, hh, Option.some.injEq, exists_eq_left', cT, fP, bK.size, hb, hy, nZ, true_and]
  rw [nH _ _ _ (by omega)]
  exact ⟨by simp, hw⟩
 simp only [bE, Nat.beq_refl, fW, hh, Option.some.injEq, exists_eq_left', cT]
 cases cap with
 | none =>
  simp only [hU, Nat.zero_add, bK.size, dS hfit, fP]
  refine ⟨Nat.ble_eq_true_of_le hz, ?_⟩
  have := hwr (fun _ => M.pure (a9.sl id 0 (cnt + k) none i.size)) Q1 (aM.2 hq)
  rwa [Nat.zero_add] at this
 | some m =>
  simp only [hU, dS (hcap m rfl)]
  exact hwr _ _ (aM.2 hq)
theorem Lst.inv {e : TypeId} {sz cnt : Nat} {v : a9} {xs : List a9} (ho : Lst h e sz v cnt xs) (hc : 0 < cnt) : ∃ id cap cells, v = .sl id 0 cnt cap sz ∧ h id = some (.row (.l cells) e) ∧ cnt * sz ≤ cells.length ∧ (∀ k, cap = some k → cnt ≤ k ∧ k * sz ≤ cells.length) ∧ cells.take (cnt * sz) = xs := by
 cases ho with
 | nil => omega
 | sl id cnt cap cells xs hh hl hc hx => exact ⟨id, cap, cells, rfl, hh, hl, hc, hx⟩
theorem HB {j : Nat} {fs : List gN} {t : TypeId} {i : TI} {v : a9} (hi : ti E t = M.pure i) (hv : dV v = false) (hf : bG h n)
  (hq : ∀ H r w, H n = some (.row (.l v.cells) t) → (∀ k, k ≠ n → H k = h k) → bG H (n + 1) → Fe E fn rnd Q ks ops (j + 1) bH (bX tm d (.ptr n 0)) (⟨j, r, w, n, n + 1⟩ :: fs) H (n + 1)) :
  FeV E fn rnd Q ks ops j bH d tm fs (alloc E t v) h n := by
 simp only [alloc, hv]
 exact RH hi hf hq
theorem kA {j : Nat} {fs : List gN} {t : TypeId} {i : TI} (hi : ti E t = M.pure i) {xs : List a9} {f : Nat → a9} (hf : bG h n)
  (hq : ∀ H, H n = some (.row (.l xs) t) → (∀ k, k ≠ n → H k = h k) → bG H (n + 1) → Fe E fn rnd Q ks ops (j + 1) bH (bX tm d (f n)) (⟨j, [], [], n, n + 1⟩ :: fs) H (n + 1)) :
  FeV E fn rnd Q ks ops j bH d tm fs ((newRow E t xs).bind fun id => M.pure (f id)) h n := by
 have key : ∀ H : Hp, Wp ((newRow E t xs).bind fun id => M.pure (f id)) H n fun v' h' n' => v' = f n ∧ h' = Go.Am.upd H n (some (.row (.l xs) t)) ∧ n' = n + 1 := fun H => by
  simp only [newRow, hi, aB, hO, aM, bind_assoc, and_self]
 refine pW hf (key _) (key _) fun v' h' n' hn hf' hh => ?_
 obtain ⟨rfl, rfl, rfl⟩ := hh
 exact hq _ (aP _ _ _) (fun k hk => aG _ _ hk) hf'
theorem tJ {x : List Nat} {f : gN} (h : ∀ id, id ∈ x → id < f.lo ∨ f.hi ≤ id) : lL x f = false := by
 unfold lL
 cases f.lo.beq f.hi with
 | true => rfl
 | false =>
  simp only
  rw [List.any_eq_false]
  intro y hy
  unfold within
  rcases h y hy with q | q
  ·rw [iL (by omega)]; simp
  ·rw [show y.blt f.hi = false from iL (by omega)]; simp
theorem OA {i j a b c e : Nat} {r w : List Nat} (hr : ∀ id, id ∈ r → id < a ∨ b ≤ id) (hw : ∀ id, id ∈ w → id < a ∨ b ≤ id) : gC ⟨i, [], [], a, b⟩ ⟨j, r, w, c, e⟩ = false := by
 unfold gC
 simp only [lT, mJ, Bool.false_or]
 rw [tJ (f := ⟨i, [], [], a, b⟩) hr, tJ (f := ⟨i, [], [], a, b⟩) hw]; rfl
theorem O9 {i j a b c e : Nat} {r w : List Nat} (hr : ∀ id, id ∈ r → id < a ∨ b ≤ id) (hw : ∀ id, id ∈ w → id < a ∨ b ≤ id) : gC ⟨j, r, w, c, e⟩ ⟨i, [], [], a, b⟩ = false := by
 unfold gC
 simp only [kQ, mJ, Bool.false_or, Bool.or_false]
 rw [tJ (f := ⟨i, [], [], a, b⟩) hr, tJ (f := ⟨i, [], [], a, b⟩) hw]; rfl
end Go.Am
set_option linter.unusedSimpArgs false
set_option linter.unusedVariables false
set_option linter.defProp false
namespace Go.Am
open Go
def nA (cs : List a9) : M (List UInt8) := (ob (cs.all pT)).bind fun _ => M.pure (cs.map kK)
def iQ : a9 → M (List UInt8)
 | .aV => M.pure []
 | .emp => M.pure []
 | .str l => M.pure l
 | .sl id off len _ sz => bE sz 1 ((aW (.ptr id off) len).bind nA)
 | .isl g sz off len => bE sz 1 ((aW (.ip g (off + len) off) len).bind nA)
 | _ => bF "bytes expected"
def dR : List a9 → M a9
 | [x, y] => (iQ x).bind fun a => (iQ y).bind fun b => M.pure (.int .i64 (Lib.compareBytes a b))
 | _ => bF "Compare"
section
variable {P : Program} {f : FuncId} {ρ : Ren} {m : Mem} {s s' : St} {w : World}
theorem AL {cs : List a9} {l : List UInt8} (h : (nA cs).run s = .ok l s') (ho : cF s') {ad : Addr} {xs : List Value} (hc : ∀ j y, xs[j]? = some y → w.cell? (ad.add j) = some y) (hx : RL ρ m cs xs.toArray) :
  (Extern.Bytes.loadBytes ad xs.length .empty).run P w = .ok ⟨⟨l⟩⟩ w ∧ gL s s' := by
 unfold nA at h
 obtain ⟨_, s1, h1, h2, ho1, _, _⟩ := M.aH h ho
 obtain ⟨hall, e1⟩ := eY h1 ho1
 obtain ⟨rfl, rfl⟩ := aC h2
 obtain ⟨ns, b1, b2⟩ := DU hall hx
 have b1' : xs = ns.map (Value.int .u8) := by simpa using b1
 have := Lib.run_loadBytesX (P := P) w ns ad .empty (fun j x hj => hc j _ (by rw [b1', List.getElem?_map, hj]; rfl))
 refine ⟨?_, e1⟩
 rw [b1', List.length_map, this, b2]
 congr 1
 apply ByteArray.ext
 have he0 : ByteArray.empty.data = #[] := rfl
 rw [he0]
 simp [Lib.bytesOf]
theorem yN {a : a9} {l : List UInt8} (h : (iQ a).run s = .ok l s') (ho : cF s') (hr : Rel P ρ m s.heap.get w) {x : Value} (hx : R ρ m a x) :
  (Extern.Bytes.bytesOf x).run P w = .ok ⟨⟨l⟩⟩ w ∧ gL s s' := by
 cases a with
 | aV => obtain ⟨rfl, rfl⟩ := aC h; cases hx; exact ⟨rfl, .refl _⟩
 | emp =>
  obtain ⟨rfl, rfl⟩ := aC h
  cases hx with
  | emp ad => cases ad <;> exact ⟨rfl, .refl _⟩
 | str l => obtain ⟨rfl, rfl⟩ := aC h; cases hx; exact ⟨rfl, .refl _⟩
 | sl id off len cap sz =>
  obtain ⟨rfl, h1⟩ := eO h
  obtain ⟨cs, s1, h2, h3, ho1, _, _⟩ := M.aH h1 ho
  have go : ∀ (r : RB) (c : Nat), ρ id = some r → (Extern.Bytes.bytesOf (.slice (some ⟨r.b, off, none⟩) len c)).run P w = .ok ⟨⟨l⟩⟩ w ∧ gL s s' := by
   intro r c hρ
   obtain ⟨ad, xs, e, k1, k2, k3, k4, k5⟩ := iO h2 ho1 hr (.ptr id off r hρ)
   injection e with e
   injection e with e
   subst e
   obtain ⟨q1, q2⟩ := AL (P := P) h3 ho k1 k3
   rw [k2] at q1
   exact ⟨q1, k5.trans q2⟩
  cases hx with
  | slx _ _ _ c _ r hρ hl => exact go r c hρ
  | slw _ _ _ c _ r hρ hl hs hc => exact go r c hρ
  | sl0 _ _ _ _ ad hc hn =>
   have hcs : cs = [] ∧ gL s s1 := by
    unfold aW at h2
    obtain ⟨b, s2, h4, h5, ho2, _, _⟩ := M.aH h2 ho1
    obtain ⟨hg, e1⟩ := eC h4
    obtain ⟨c, t, rfl, h6⟩ := jD h5
    obtain ⟨_, s3, h7, h8, ho3, _, _⟩ := M.aH h6 ho1
    obtain ⟨hb, e2⟩ := eY h7 ho3
    obtain ⟨rfl, rfl⟩ := aC h8
    have := bK.iH (n := 0) (Nat.le_of_ble_eq_true hb)
    exact ⟨List.length_eq_zero_iff.1 this, e1.trans e2⟩
   obtain ⟨rfl, e⟩ := hcs
   unfold nA at h3
   obtain ⟨_, s2, h4, h5, ho2, _, _⟩ := M.aH h3 ho
   obtain ⟨_, e1⟩ := eY h4 ho2
   obtain ⟨rfl, rfl⟩ := aC h5
   exact ⟨rfl, e.trans e1⟩
 | isl g sz off len =>
  obtain ⟨rfl, h1⟩ := eO h
  obtain ⟨cs, s1, h2, h3, ho1, _, _⟩ := M.aH h1 ho
  cases hx with
  | isl _ _ _ _ b o c g' hg hrr hl =>
   obtain ⟨ad, xs, e, k1, k2, k3, k4, k5⟩ := iO h2 ho1 hr (.ip g (off + len) off b o g' (fun j hj => hg j (by omega)) (fun j hj => hrr j (by omega)))
   injection e with e
   injection e with e
   subst e
   obtain ⟨q1, q2⟩ := AL (P := P) h3 ho k1 k3
   rw [k2] at q1
   exact ⟨q1, k5.trans q2⟩
  | vQ _ _ _ c ad =>
   unfold aW at h2
   obtain ⟨_, s3, h7, h8, ho3, _, _⟩ := M.aH h2 ho1
   obtain ⟨hb, e2⟩ := eY h7 ho3
   obtain ⟨rfl, rfl⟩ := aC h8
   unfold nA at h3
   obtain ⟨_, s2, h4, h5, ho2, _, _⟩ := M.aH h3 ho
   obtain ⟨_, e1⟩ := eY h4 ho2
   obtain ⟨rfl, rfl⟩ := aC h5
   exact ⟨rfl, e2.trans e1⟩
 | _ => exact (aD h).elim
theorem rl2 {x y : a9} {xs : Array Value} (h : RL ρ m [x, y] xs) : ∃ a b, xs = #[a, b] ∧ R ρ m x a ∧ R ρ m y b := by
 obtain ⟨l, r⟩ := h
 obtain ⟨xl⟩ := xs
 match xl with
 | [] => simp at l
 | [_] => simp at l
 | [a, b] => exact ⟨a, b, rfl, r 0 _ _ rfl rfl, r 1 _ _ rfl rfl⟩
 | _ :: _ :: _ :: _ => simp at l
theorem mU {fn : Func} (hf : P.funcs[f]? = some fn) (hname : (fn.name == "runtime.NumGoroutine") = false) (hb : fn.body.isNone = true) (hn : Extern.findNext fn = none) (he : Extern.find fn = some Extern.BytealgCompare.compare) : lP P f dR := by
 intro args s v s' h ho ρ m w xs hr hfr hx
 unfold dR at h
 split at h
 ·rename_i x y
  obtain ⟨a, s1, h1, h2, ho1, _, _⟩ := M.aH h ho
  obtain ⟨b, s2, h3, h4, ho2, _, _⟩ := M.aH h2 ho
  obtain ⟨rfl, rfl⟩ := aC h4
  obtain ⟨xa, xb, rfl, ra, rb⟩ := rl2 hx
  obtain ⟨q1, e1⟩ := yN (P := P) h1 ho1 hr ra
  obtain ⟨q2, e2⟩ := yN (P := P) h3 ho2 (hr.bY e1) rb
  refine .inr ⟨_, w, ?_, ρ, fF.bY hr (e1.trans e2), .int _ _⟩
  rw [run_callFunc_extern hf hname hb hn he]
  change Result.andThen (Sem.run P (do pure (goInt (Extern.BytealgCompare.cmp (← Extern.Bytes.bytesOf xa) (← Extern.Bytes.bytesOf xb)))) w) _ = _
  simp only [Sem.run_bind, q1, q2, Result.andThen_ok, Sem.run_pure, Lib.cmp_eq]
  rfl
 ·exact (aD h).elim
def iE (e : TypeId) : List a9 → M a9
 | [.sl id1 off1 len1 _ _, .sl id2 _ len2 _ _] => (ob ((id1.beq id2).not && (Nat.blt 0 len1 && Nat.blt 0 len2))).bind fun _ =>
   (fT id1).bind (cT fun c t => (ob (t.beq e)).bind fun _ => (fT id2).bind (cT fun c2 _ => (ob (Nat.blt 0 c2.size)).bind fun _ => M.pure (.bool false)))
 | _ => bF "overlaps"
theorem sS {fn : Func} {tS tR e : TypeId} {size : Nat} (hf : P.funcs[f]? = some fn) (hname : (fn.name == "runtime.NumGoroutine") = false) (hb : fn.body.isNone = true) (hn : Extern.findNext fn = none)
  (he : Extern.find fn = some (Extern.SlicesOverlaps.overlaps #[tS, tS] #[tR])) (ht : P.underlying tS = some (.slice e)) (hz : ∀ w, (Go.sizeOf e).run P w = .ok size w) (hne : P.underlying e ≠ some (.int .u8)) : lP P f (iE e) := by
 intro args s v s' h ho ρ m w xs hr hfr hx
 unfold iE at h
 split at h
 ·rename_i id1 off1 len1 cap1 sz1 id2 off2 len2 cap2 sz2
  obtain ⟨_, s1, h1, h2, ho1, _, _⟩ := M.aH h ho
  obtain ⟨hb1, e1⟩ := eY h1 ho1
  simp only [Bool.and_eq_true, Bool.not_eq_true'] at hb1
  obtain ⟨hid, hl1, hl2⟩ := hb1
  have hid : id1 ≠ id2 := fun e => by subst e; simp at hid
  have hl1 : 0 < len1 := Nat.le_of_ble_eq_true hl1
  have hl2 : 0 < len2 := Nat.le_of_ble_eq_true hl2
  obtain ⟨b1, s2, h3, h4, ho2, _, _⟩ := M.aH h2 ho
  obtain ⟨hg1, e2⟩ := eC h3
  obtain ⟨c1, t1, rfl, h5⟩ := jD h4
  obtain ⟨_, s3, h6, h7, ho3, _, _⟩ := M.aH h5 ho
  obtain ⟨hte, e3⟩ := eY h6 ho3
  obtain rfl := Nat.eq_of_beq_eq_true hte
  obtain ⟨b2, s4, h8, h9, ho4, _, _⟩ := M.aH h7 ho
  obtain ⟨hg2, e4⟩ := eC h8
  obtain ⟨c2, t2, rfl, h10⟩ := jD h9
  obtain ⟨_, s5, h11, h12, ho5, _, _⟩ := M.aH h10 ho
  obtain ⟨hc2, e5⟩ := eY h11 ho5
  have hc2 : 0 < c2.size := Nat.le_of_ble_eq_true hc2
  obtain ⟨rfl, rfl⟩ := aC h12
  obtain ⟨xa, xb, rfl, ra, rb⟩ := rl2 hx
  have hg1 : s.heap.get id1 = some (.row c1 t1) := by rw [← e1.heap]; exact hg1
  have hg2 : s.heap.get id2 = some (.row c2 t2) := by rw [← e1.heap, ← e2.heap, ← e3.heap]; exact hg2
  have slr : ∀ {id off len cap sz x}, R ρ m (.sl id off len cap sz) x → 0 < len → ∃ r cc, ρ id = some r ∧ x = .slice (some ⟨r.b, off, none⟩) len cc := by
   intro id off len cap sz x hx hl
   cases hx with
   | slx _ _ _ c _ r hρ hl => exact ⟨r, _, hρ, rfl⟩
   | slw _ _ _ c _ r hρ hl hs hc => exact ⟨r, _, hρ, rfl⟩
   | sl0 _ _ _ _ ad hc hn => exact absurd hl (Nat.lt_irrefl _)
  obtain ⟨r1, cc1, hρ1, rfl⟩ := slr ra hl1
  obtain ⟨r2, cc2, hρ2, rfl⟩ := slr rb hl2
  obtain ⟨arr1, fr1, k1, k2, k3, k4, k5, k6, k7⟩ := hr.row hg1 hρ1
  obtain ⟨arr2, fr2, q1, q2, q3, q4, q5, q6, q7⟩ := hr.row hg2 hρ2
  have hbb : r1.b ≠ r2.b := fun e => hid (hr.inj id1 id2 _ _ r1 r2 hg1 hg2 hρ1 hρ2 e)
  have hfr1 : fr1.1 = fr1.2 := k6.elim id fun q => absurd q.2 hne
  have hfz : ∀ j, w.frozen? ⟨r1.b, j, none⟩ = false := fun j => by
   unfold World.frozen?
   obtain ⟨lo, hi⟩ := fr1
   simp only at hfr1
   subst hfr1
   rw [k1]
   simp only [Bool.and_eq_false_iff, decide_eq_false_iff_not]
   omega
  have hs1 : w.shape? r1.b = some (t1, arr1.size) := by unfold World.shape?; rw [k1]
  have hs2 : w.shape? r2.b = some (t2, arr2.size) := by unfold World.shape?; rw [q1]
  refine .inr ⟨_, w, ?_, ρ, fF.bY hr (((e1.trans e2).trans (e3.trans e4)).trans e5), .bool _⟩
  rw [run_callFunc_extern hf hname hb hn he, Lib.run_overlaps_apart w tS tR t1 ht size hz ⟨r1.b, off1, none⟩ ⟨r2.b, off2, none⟩ len1 cc1 len2 cc2 hbb t1 t2 arr1.size arr2.size hs1 hs2 (by omega) (hfz _) (hfz _)]
  rfl
 ·exact (aD h).elim
end
theorem Bytes.all {α : Type} {h : Hp} {n : Nat} {v : a9} {l : List UInt8} (hb : Bytes h v l) {f : List UInt8 → M α} {Q : α → Hp → Nat → Prop} : Wp ((iQ v).bind f) h n Q ↔ Wp (f l) h n Q := by
 cases hb with
 | aV => simp only [iQ, aB]
 | isl g off l hf =>
  simp only [iQ, aW, nA, bE, bind_assoc, aB, fP, show (Nat.beq 1 1) = true from rfl]
  rw [jQ g l.length off (l.map u8) (by simp) (fun j hj => by rw [hf j (by simpa using hj)]; simp)]
  simp only [qZ, kJ, true_and, Nat.ble_self_eq_true]
 | sl id off cap c e l hh hs hc =>
  simp only [iQ, aW, nA, bE, bind_assoc, fW, hh, Option.some.injEq, exists_eq_left', cT, fP, show (Nat.beq 1 1) = true from rfl, aB]
  have := bK.pE (c := c) (off := off) (l := l.map u8) (by simpa using hs) (fun j hj => by rw [hc j (by simpa using hj)]; simp)
  simp only [List.length_map] at this
  simp only [this, qZ, kJ, true_and]
  simp [hs]
end Go.Am
set_option linter.unusedSimpArgs false
set_option linter.unusedVariables false
set_option linter.defProp false
namespace Go.Am
open Go
def gR {α : Type} (l : List α) (k : Nat) (v : α) : List α := l.take k ++ v :: l.drop k
theorem jU {α : Type} (l : List α) (k : Nat) (v : α) : (gR l k v).length = l.length + 1 := by simp [gR]; omega
def YW (k : Int) (len : Nat) : Bool := decide (0 ≤ k ∧ k ≤ (len : Int))
def MC : M Nat := ⟨fun s => .ok s.next s, by
 intro s a s' h
 injection h with h1 h2
 subst h1; subst h2
 exact ⟨[], [], [], ⟨Nat.le_refl _, rfl, rfl, rfl, fun _ _ _ => rfl, fun _ h => (by cases h), fun t hn ho hg =>
  ⟨t, by rw [hn], hn, ho, rfl, rfl, rfl, fun id hid => hg id (.inr hid), fun _ _ _ => rfl⟩, id, fun _ h => (by cases h)⟩⟩⟩
theorem QG {n : Nat} {s s' : St} (h : MC.run s = .ok n s') : n = s.next ∧ gL s s' := by
 injection h with h1 h2
 subst h1; subst h2
 exact ⟨rfl, .refl _⟩
theorem PJ {α : Type} {f : Nat → M α} {h : Hp} {n : Nat} {Q : α → Hp → Nat → Prop} : Wp (MC.bind f) h n Q ↔ Wp (f n) h n Q := by
 rw [dX]
 constructor
 ·intro hw
  obtain ⟨s, a, s', ⟨h1, h2, h3⟩, he, hq⟩ := hw
  have := he.run
  injection this with e1 e2
  subst e1; subst e2
  rw [h1, h2] at hq
  exact hq
 ·intro hw
  exact ⟨at0 h n, n, at0 h n, mQ h n, ⟨rfl, ⟨[], rfl, rfl⟩, rfl⟩, hw⟩
def qT (e : TypeId) (i : TI) (at_ : Int) (v : a9) : M a9 := (ob (decide (at_ = 0))).bind fun _ => iS e i 1 [v]
def uM (e : TypeId) (i : TI) : List a9 → M a9
 | [s, .int .i64 at_, .sl xid 0 1 (some 1) 1] => MC.bind fun nx => (fT xid).bind (cT fun xc xt => (ob (Nat.blt xid nx && (Nat.blt 0 xc.size && (xt.beq e && bI (xc.at 0))))).bind fun _ => match s with
  | .aV => qT e i at_ (xc.at 0)
  | .emp => qT e i at_ (xc.at 0)
  | .sl id off len cap sz => bE sz 1 (match cap with
   | some m => (fT id).bind (cT fun c t => (ob (Nat.blt id nx && (m.beq 0 && (len.beq 0 && (t.beq e && off.ble c.size))))).bind fun _ => qT e i at_ (xc.at 0))
   | none => (fT id).bind (cT fun c t => (ob (Nat.blt id nx && (off.beq 0 && (t.beq e && (Nat.blt 0 c.size && (len.ble c.size && ((id.beq xid).not && (YW at_ len && (c.sub 0 len).all bI)))))))).bind fun _ =>
     (zG id).bind fun _ => iS e i (len + 1) (gR (c.sub 0 len) at_.toNat (xc.at 0))))
  | _ => bF "Insert")
 | _ => bF "Insert"
structure HP (E : Env) (f : FuncId) (e : TypeId) (i : TI) : Prop where
 nil : ∀ (h : Hp) (n : Nat) (s : a9) (xid : Nat) (xc : bK), (s = .aV ∨ s = .emp ∨ ∃ id off c, s = .sl id off 0 (some 0) 1 ∧ h id = some (.row c e) ∧ off ≤ c.size) → h xid = some (.row xc e) → 0 < xc.size → bI (xc.at 0) = true → xid < n →
  Wp (bM E (aY E) f [s, .int .i64 0, .sl xid 0 1 (some 1) 1]) h n fun v' h' n' => v' = .sl n 0 1 none 1 ∧ n' = n + 1 ∧ ∀ j, h' j = if j = n then some (.row (.l [xc.at 0]) e) else h j
 at_ : ∀ (h : Hp) (n : Nat) (id len C k xid : Nat) (cells : List a9) (xc : bK), h id = some (.row (.l cells) e) → cells.length = C → len ≤ C → 0 < C → 2 * (len + 1) * i.bytes ≤ 281474976710656 → len + 1 ≤ 281474976710656 → k ≤ len → (cells.take len).all bI = true →
  h xid = some (.row xc e) → 0 < xc.size → bI (xc.at 0) = true → xid < n → id < n → xid ≠ id →
  Wp (bM E (aY E) f [.sl id 0 len (some C) 1, .int .i64 (k : Nat), .sl xid 0 1 (some 1) 1]) h n fun v' h' n' =>
   (v' = .sl id 0 (len + 1) (some C) 1 ∧ n' = n ∧ len + 1 ≤ C ∧ ∃ cells', cells'.length = C ∧ cells'.take (len + 1) = gR (cells.take len) k (xc.at 0) ∧ ∀ j, h' j = if j = id then some (.row (.l cells') e) else h j) ∨
   (v' = .sl n 0 (len + 1) none 1 ∧ n' = n + 1 ∧ ∀ j, h' j = if j = n then some (.row (.l (gR (cells.take len) k (xc.at 0))) e) else h j)
section
variable {P : Program} {f : FuncId} {ρ : Ren} {m : Mem} {s s' : St} {w : World}
theorem Rel.L4 {h h' : Nat → Option Blk} (hr : Rel P ρ m h w) {id : Nat} {c c2 : bK} {t : TypeId} (hg : h id = some (.row c t)) {r : RB} (hρ : ρ id = some r) (hs : c2.size ≤ r.n) (hc : ∀ j, j < c2.size → c2.at j = .aA ∨ (j < c.size ∧ c2.at j = c.at j))
  (hh : ∀ j, h' j = if j = id then some (.row c2 t) else h j) : Rel P ρ m h' w where
 eT := fun j b hj => by
  rw [hh j] at hj
  by_cases e : j = id
  ·subst e
   rw [if_pos rfl] at hj
   injection hj with hj
   subst hj
   obtain ⟨rb, o, q1, q2, q3, q4⟩ := hr.eT j _ hg
   rw [hρ] at q1
   injection q1 with q1
   subst q1
   cases q3 with
   | row _ _ arr fr hs' hn hc' hrr hf =>
    refine ⟨r, _, hρ, q2, .row r c2 t arr fr hs' hn (by omega) (fun j x hj hx => ?_) hf, q4⟩
    rcases hc j hj with e | ⟨h1, h2⟩
    ·rw [e]; exact .aA _
    ·rw [h2]; exact hrr j x h1 hx
  ·rw [if_neg e] at hj
   exact hr.eT j b hj
 inj := fun i j b1 b2 r1 r2 h1 h2 h3 h4 h5 => by
  have up : ∀ {k b}, h' k = some b → ∃ b', h k = some b' := fun {k b} hk => by
   rw [hh k] at hk
   by_cases e : k = id
   ·subst e; exact ⟨_, hg⟩
   ·rw [if_neg e] at hk; exact ⟨_, hk⟩
  obtain ⟨b1', h1'⟩ := up h1
  obtain ⟨b2', h2'⟩ := up h2
  exact hr.inj i j _ _ r1 r2 h1' h2' h3 h4 h5
 mem := hr.mem
theorem Rel.sub {h h' : Nat → Option Blk} (hr : Rel P ρ m h w) (hh : ∀ j b, h' j = some b → h j = some b) : Rel P ρ m h' w :=
 ⟨fun id b hb => hr.eT id b (hh id b hb), fun i j b c r r' h1 h2 => hr.inj i j b c r r' (hh i b h1) (hh j c h2), hr.mem⟩
theorem E4.imp {xs : Array Value} {K K' : Value → World → Prop} (h : E4 P f xs w K) (hk : ∀ v w', K v w' → K' v w') : E4 P f xs w K' := by
 rcases h with ⟨h1, h2⟩ | ⟨v, w', h1, h2⟩
 ·exact .inl ⟨h1, h2.mono fun e w' ⟨v, h3, h4⟩ => ⟨v, h3, hk v w' h4⟩⟩
 ·exact .inr ⟨v, w', h1, hk v w' h2⟩
theorem al2 {x y z : a9} {xs : Array Value} (h : RL ρ m [x, y, z] xs) : ∃ a b c, xs = #[a, b, c] ∧ R ρ m x a ∧ R ρ m y b ∧ R ρ m z c := by
 obtain ⟨l, r⟩ := h
 obtain ⟨xl⟩ := xs
 match xl with
 | [] => simp at l
 | [_] => simp at l
 | [_, _] => simp at l
 | [a, b, c] => exact ⟨a, b, c, rfl, r 0 _ _ rfl rfl, r 1 _ _ rfl rfl, r 2 _ _ rfl rfl⟩
 | _ :: _ :: _ :: _ :: _ => simp at l
theorem KW {x y z : a9} {a b c : Value} (ha : R ρ m x a) (hb : R ρ m y b) (hc : R ρ m z c) : RL ρ m [x, y, z] #[a, b, c] := by
 refine ⟨rfl, fun i u v hu hv => ?_⟩
 match i with
 | 0 => simp at hu hv; subst hu; subst hv; exact ha
 | 1 => simp at hu hv; subst hu; subst hv; exact hb
 | 2 => simp at hu hv; subst hu; subst hv; exact hc
 | i + 3 => simp at hu
theorem D3 {e : TypeId} {i : TI} {need : Nat} {cs : List a9} {v : a9} (h : (iS e i need cs).run s = .ok v s') (ho : cF s') :
  2 * need * i.bytes ≤ 281474976710656 ∧ need ≤ 281474976710656 ∧ v = .sl s.next 0 need none i.size ∧ s'.next = s.next + 1 ∧ ∀ j, s'.heap.get j = if j = s.next then some (.row (.l cs) e) else s.heap.get j := by
 obtain ⟨_, s1, h1, h2, ho1, _, _⟩ := M.aH h ho
 obtain ⟨hb, e1⟩ := eY h1 ho1
 obtain ⟨id, s2, h3, h4⟩ := M.aF h2
 obtain ⟨rfl, rfl⟩ := aC h4
 obtain ⟨rfl, k1, k2⟩ := uI h3
 simp only [Bool.and_eq_true] at hb
 rw [e1.next] at k1 k2 ⊢
 rw [e1.heap] at k2
 exact ⟨Nat.le_of_ble_eq_true hb.1, Nat.le_of_ble_eq_true hb.2, rfl, k1, k2⟩
theorem E5 {α : Type} {mm : M α} {h : Hp} {n : Nat} {Q : α → Hp → Nat → Prop} (hw : Wp mm h n Q) : ∃ a t, mm.run (at0 h n) = .ok a t ∧ cF t ∧ Q a t.heap.get t.next := by
 obtain ⟨a, t, he, hq⟩ := G3 hw (mQ h n)
 obtain ⟨o, h1, h2⟩ := he.obs
 refine ⟨a, t, he.run, ?_, hq⟩
 unfold cF
 rw [h1]
 simpa [at0] using h2
end
theorem PX {E : Env} {f : FuncId} {e : TypeId} {i : TI} (W : HP E f e i) (h1 : i.size = 1) : lP E.P f (uM e i) := by
 intro args s v s' h ho ρ m w xs hr hfr hx
 unfold uM at h
 split at h
 ·rename_i S at_ xid
  obtain ⟨nx, s0, g01, g02⟩ := M.aF h
  obtain ⟨rfl, e0⟩ := QG g01
  obtain ⟨xb, s1, g1, g2, go1, _, gn1⟩ := M.aH g02 ho
  obtain ⟨hgx, e1⟩ := eC g1
  rw [e0.heap] at hgx
  obtain ⟨xc, xt, rfl, g3⟩ := jD g2
  obtain ⟨_, s2, g4, g5, go2, _, gn2⟩ := M.aH g3 ho
  obtain ⟨hb, e2⟩ := eY g4 go2
  simp only [Bool.and_eq_true] at hb
  obtain ⟨hxn, hxc, hxt, hone⟩ := hb
  have hxn : xid < s.next := Nat.le_of_ble_eq_true hxn
  have hxc : 0 < xc.size := Nat.le_of_ble_eq_true hxc
  obtain rfl := Nat.eq_of_beq_eq_true hxt
  have e12 := (e0.trans e1).trans e2
  obtain ⟨X, K, Y, rfl, rX, rK, rY⟩ := al2 hx
  obtain rfl := rK.fE
  have fresh_live : ∀ {j b}, s.heap.get j = some b → s.next < s'.next → j ≠ s.next := fun {j b} hj hn e => by
   subst e
   obtain ⟨rb, o, q1, _⟩ := hr.eT s.next b hj
   rw [hfr s.next ⟨Nat.le_refl _, hn⟩] at q1
   cases q1
  have new1 : ∀ {S' : a9}, R ρ m S' X → (S' = .aV ∨ S' = .emp ∨ ∃ id off c, S' = .sl id off 0 (some 0) 1 ∧ s.heap.get id = some (.row c xt) ∧ off ≤ c.size) → ∀ s3, gL s s3 → (qT xt i at_ (xc.at 0)).run s3 = .ok v s' →
    E4 E.P f #[X, .int .i64 at_, Y] w fun x w' => ∃ ρ', fF E.P ρ m s w ρ' m s' w' ∧ R ρ' m v x := by
   intro S' rS hS s3 e3 hg
   obtain ⟨_, s4, k1, k2, ko4, _, _⟩ := M.aH hg ho
   obtain ⟨hat, e4⟩ := eY k1 ko4
   have hat := of_decide_eq_true hat
   subst hat
   obtain ⟨_, _, rfl, k3, k4⟩ := D3 k2 ho
   have e34 := e3.trans e4
   rw [e34.next] at k3 k4 ⊢
   rw [e34.heap] at k4
   obtain ⟨v', t, r1, r2, rfl, r4, r5⟩ := E5 (W.nil s.heap.get s.next S' xid xc hS hgx hxc hone hxn)
   have rr : Rel E.P ρ m (at0 s.heap.get s.next).heap.get w := hr.congr fun _ => rfl
   refine (nU lV f _ _ _ _ r1 r2 ρ m w _ rr (fun id hid => hfr id ⟨hid.1, by have := hid.2; omega⟩) (KW rS (.int _ _) rY)).imp fun x w' ⟨ρ', p, q⟩ => ?_
   refine ⟨ρ', ⟨p.ren, fun id hid => (p.new id hid).imp_right fun z => ⟨z.1, by have := z.2; omega⟩, p.mem, p.rel.sub fun j b hj => ?_, p.fr, by omega⟩, ?_⟩
   ·rw [k4] at hj; rw [r5]; exact hj
   ·rw [h1]; exact q
  split at g5
  ·exact new1 rX (.inl rfl) s2 e12 g5
  ·exact new1 rX (.inr (.inl rfl)) s2 e12 g5
  ·rename_i id off len cap sz
   obtain ⟨rfl, g6⟩ := eO g5
   cases cap with
   | some mm =>
    obtain ⟨b3, s3, g7, g8, go3, _, _⟩ := M.aH g6 ho
    obtain ⟨hg3, e3⟩ := eC g7
    obtain ⟨c, t, rfl, g9⟩ := jD g8
    obtain ⟨_, s4, g10, g11, go4, _, _⟩ := M.aH g9 ho
    obtain ⟨hb, e4⟩ := eY g10 go4
    simp only [Bool.and_eq_true] at hb
    obtain ⟨_, b1, b2, b3, b4⟩ := hb
    obtain rfl := Nat.eq_of_beq_eq_true b1
    obtain rfl := Nat.eq_of_beq_eq_true b2
    obtain rfl := Nat.eq_of_beq_eq_true b3
    rw [e12.heap] at hg3
    exact new1 rX (.inr (.inr ⟨id, off, c, rfl, hg3, Nat.le_of_ble_eq_true b4⟩)) s4 ((e12.trans e3).trans e4) g11
   | none =>
    obtain ⟨b3, s3, g7, g8, go3, _, _⟩ := M.aH g6 ho
    obtain ⟨hg3, e3⟩ := eC g7
    obtain ⟨c, t, rfl, g9⟩ := jD g8
    obtain ⟨_, s4, g10, g11, go4, _, _⟩ := M.aH g9 ho
    obtain ⟨hb, e4⟩ := eY g10 go4
    simp only [Bool.and_eq_true] at hb
    obtain ⟨b0, b1, b2, b3, b4, b5, b6, b7⟩ := hb
    have b0 : id < s.next := Nat.le_of_ble_eq_true b0
    obtain rfl := Nat.eq_of_beq_eq_true b1
    obtain rfl := Nat.eq_of_beq_eq_true b2
    have b3 : 0 < c.size := Nat.le_of_ble_eq_true b3
    have b4 := Nat.le_of_ble_eq_true b4
    have b5 : id ≠ xid := fun q => by subst q; simp at b5
    obtain ⟨b6, b8⟩ := of_decide_eq_true b6
    obtain ⟨k, rfl⟩ := Int.eq_ofNat_of_zero_le b6
    rw [e12.heap] at hg3
    have e14 := (e12.trans e3).trans e4
    obtain ⟨_, s5, g12, g13⟩ := M.aF g11
    obtain ⟨_, k1, k2⟩ := tG g12
    obtain ⟨c1, c2, rfl, k3, k4⟩ := D3 g13 ho
    rw [k1, e14.next] at k3 k4 ⊢
    have k2 : ∀ j, s5.heap.get j = if j = id then none else s.heap.get j := fun j => by rw [k2, e14.heap]
    simp only [k2, Int.toNat_natCast] at k4
    have nid := fresh_live hg3 (by omega)
    have nxid := fresh_live hgx (by omega)
    obtain ⟨r, C, hρ, rfl, hC⟩ : ∃ r C, ρ id = some r ∧ X = .slice (some ⟨r.b, 0, none⟩) len C ∧ C = r.n ∧ r.s = 1 ∧ len ≤ C := by
     cases rX with
     | slw _ _ _ C _ r hρ hl hs hc => exact ⟨r, C, hρ, rfl, by omega, hs, hl⟩
     | sl0 _ _ _ _ ad hc hn =>
      obtain ⟨r, q1, q2⟩ := hn rfl
      obtain ⟨arr, fr, _, _, p3, p4, _⟩ := hr.row hg3 q1
      omega
    obtain ⟨rfl, hs1, hlC⟩ := hC
    obtain ⟨arr, fr, p1, p2, p3, p4, p5, p6, p7⟩ := hr.row hg3 hρ
    let cells : List a9 := c.sub 0 c.size ++ List.replicate (r.n - c.size) .aA
    let cc : bK := .l cells
    let hh : Hp := fun j => if j = id then some (.row cc t) else s.heap.get j
    have hl0 : (c.sub 0 c.size).length = c.size := bK.iH (by omega)
    have hcl : cells.length = r.n := by
     show (c.sub 0 c.size ++ List.replicate (r.n - c.size) a9.aA).length = _
     rw [List.length_append, hl0, List.length_replicate]; omega
    have hcg : ∀ j, j < c.size → cells[j]? = some (c.at j) := fun j hj => by
     show (c.sub 0 c.size ++ List.replicate (r.n - c.size) a9.aA)[j]? = _
     rw [List.getElem?_append_left (by omega), bK.wD (c := c) (by omega) hj, Nat.zero_add]
    have hcs : cells.take len = c.sub 0 len := by
     apply List.ext_getElem?
     intro j
     by_cases hj : j < len
     ·rw [List.getElem?_take, if_pos hj, hcg j (by omega), bK.wD (c := c) (by omega) hj, Nat.zero_add]
     ·rw [List.getElem?_eq_none (by rw [List.length_take]; omega), List.getElem?_eq_none (by rw [bK.iH (by omega)]; omega)]
    have rr : Rel E.P ρ m (at0 hh s.next).heap.get w := by
     refine hr.L4 (c2 := cc) hg3 hρ (by show cells.length ≤ _; omega) (fun j hj => ?_) (fun j => rfl)
     have hj : j < cells.length := hj
     by_cases q : j < c.size
     ·refine .inr ⟨q, ?_⟩
      show nth cells j .aA = _
      have := pL cells j hj
      rw [hcg j q] at this
      injection this with this
      exact this.symm
     ·refine .inl ?_
      show nth cells j .aA = _
      have := pL cells j hj
      rw [show cells = c.sub 0 c.size ++ List.replicate (r.n - c.size) a9.aA from rfl, List.getElem?_append_right (by omega), List.getElem?_replicate, if_pos (by omega)] at this
      injection this with this
      exact this.symm
    have hgx' : hh xid = some (.row xc t) := by show (if xid = id then _ else _) = _; rw [if_neg (Ne.symm b5)]; exact hgx
    obtain ⟨v', u, r1, r2, r3⟩ := E5 (W.at_ hh s.next id len r.n k xid cells xc (if_pos rfl) hcl hlC (by omega) c1 c2 (by omega) (by rw [hcs]; exact b7) hgx' hxc hone hxn b0 (Ne.symm b5))
    rw [hcs] at r3
    have hun : u.next ≤ s.next + 1 := by rcases r3 with ⟨_, q, _⟩ | ⟨_, q, _⟩ <;> omega
    refine (nU lV f _ _ _ _ r1 r2 ρ m w _ rr (fun id hid => hfr id ⟨hid.1, by have := hid.2; omega⟩) (KW (.slx id 0 len r.n 1 r hρ hlC) (.int _ _) rY)).imp fun x w' ⟨ρ', p, q⟩ => ?_
    rcases r3 with ⟨rfl, q2, q3, c', q4, q5, q6⟩ | ⟨rfl, q2, q6⟩
    ·have hρ' : ρ' id = some r := p.ren _ _ hρ
     have hnew : ρ' s.next = none := by
      cases he : ρ' s.next with
      | none => rfl
      | some z =>
       rcases p.new s.next (by rw [he]; simp) with y | y
       ·exact absurd (hfr s.next ⟨Nat.le_refl _, by omega⟩) y
       ·have := y.2; simp only [q2] at this; exact absurd this (Nat.lt_irrefl _)
     have hlen : (gR (c.sub 0 len) k (xc.at 0)).length = len + 1 := by rw [jU, bK.iH (by omega)]
     have rel2 := p.rel.L4 (id := id) (c := .l c') (c2 := .l (gR (c.sub 0 len) k (xc.at 0))) (t := t) (r := r) (h' := fun j => if j = id then some (.row (.l (gR (c.sub 0 len) k (xc.at 0))) t) else u.heap.get j) (by rw [q6, if_pos rfl]) hρ'
      (by show (gR (c.sub 0 len) k (xc.at 0)).length ≤ _; omega)
      (fun j hj => by
       have hj : j < len + 1 := by rw [← hlen]; exact hj
       have hj2 : j < c'.length := by omega
       refine .inr ⟨hj2, ?_⟩
       show nth (gR (c.sub 0 len) k (xc.at 0)) j .aA = nth c' j .aA
       have z1 := pL (gR (c.sub 0 len) k (xc.at 0)) j (by omega)
       have z2 := pL c' j hj2
       rw [← q5, List.getElem?_take, if_pos hj, z2] at z1
       injection z1 with z1
       rw [q5] at z1
       exact z1.symm) (fun j => rfl)
     have rel3 := rel2.KZ (h' := s'.heap.get) (id := id) (id' := s.next) (b := .row (.l (gR (c.sub 0 len) k (xc.at 0))) t) (r := r) (if_pos rfl) hρ' hnew (fun j => by
      rw [k4 j]
      by_cases y1 : j = s.next
      ·simp [y1]
      ·by_cases y2 : j = id
       ·simp [y1, y2]
       ·simp only [if_neg y1, if_neg y2]
        rw [q6 j, if_neg y2]
        exact (if_neg y2).symm)
     have le2 : iG ρ' (ρ'.put s.next r) := iG.put hnew
     refine ⟨ρ'.put s.next r, ⟨fun j z hz => le2 _ _ (p.ren j z hz), fun j hj => ?_, p.mem, rel3, p.fr, by omega⟩, ?_⟩
     ·by_cases y : j = s.next
      ·exact .inr ⟨by omega, by omega⟩
      ·have : ρ' j ≠ none := by unfold Ren.put at hj; rwa [if_neg y] at hj
       exact (p.new j this).imp_right fun z => ⟨z.1, by have := z.2; simp only [q2] at this; omega⟩
     ·cases q with
      | slx _ _ _ C2 _ r2 hρ2 hl2 =>
       rw [hρ'] at hρ2
       injection hρ2 with hρ2
       subst hρ2
       rw [h1]
       exact .slw s.next 0 (len + 1) _ 1 r (by unfold Ren.put; rw [if_pos rfl]) hl2 hs1 (by omega)
    ·refine ⟨ρ', ⟨p.ren, fun id hid => (p.new id hid).imp_right fun z => ⟨z.1, by have := z.2; omega⟩, p.mem, p.rel.sub fun j b hj => ?_, p.fr, by omega⟩, ?_⟩
     ·rw [k4] at hj
      rw [q6]
      by_cases y1 : j = s.next
      ·rw [if_pos y1] at hj ⊢; exact hj
      ·rw [if_neg y1] at hj ⊢
       by_cases y2 : j = id
       ·rw [if_pos y2] at hj; cases hj
       ·rw [if_neg y2] at hj
        show (if j = id then _ else _) = _
        rw [if_neg y2]; exact hj
     ·rw [h1]; exact q
  ·exact (aD g5).elim
 ·exact (aD h).elim
theorem CE {E : Env} {f : FuncId} {act : List a9 → M a9} (W : ∀ args s v s', (act args).run s = .ok v s' → cF s' → gL s s' ∧ Wp (bM E (aY E) f args) s.heap.get s.next fun v' h' n' => v' = v ∧ h' = s.heap.get ∧ n' = s.next) : lP E.P f act := by
 intro args s v s' h ho ρ m w xs hr hfr hx
 obtain ⟨e, hw⟩ := W args s v s' h ho
 obtain ⟨v', t, r1, r2, rfl, r4, r5⟩ := E5 hw
 have rr : Rel E.P ρ m (at0 s.heap.get s.next).heap.get w := hr.congr fun _ => rfl
 have no : ∀ id, ¬ New (at0 s.heap.get s.next) t id := fun id hid => by
  have h1 : s.next ≤ id := hid.1
  have h2 := hid.2
  omega
 refine (nU lV f _ _ _ _ r1 r2 ρ m w _ rr (fun id hid => absurd hid (no id)) hx).imp fun x w' ⟨ρ', p, q⟩ => ?_
 refine ⟨ρ', ⟨p.ren, fun id hid => (p.new id hid).elim .inl fun z => absurd z (no id), p.mem, p.rel.congr fun id => ?_, p.fr, by rw [e.next]; exact Nat.le_refl _⟩, q⟩
 rw [e.heap, r4]
theorem AM {cs : List a9} {l : List UInt8} {s s' : St} (h : (nA cs).run s = .ok l s') (ho : cF s') : gL s s' ∧ cs.all pT = true ∧ l = cs.map kK := by
 unfold nA at h
 obtain ⟨_, s1, h1, h2, ho1, _, _⟩ := M.aH h ho
 obtain ⟨hall, e1⟩ := eY h1 ho1
 obtain ⟨rfl, rfl⟩ := aC h2
 exact ⟨e1, hall, rfl⟩
theorem yO {a : a9} {l : List UInt8} {s s' : St} (h : (iQ a).run s = .ok l s') (ho : cF s') : gL s s' ∧ ∀ {α : Type} {f : List UInt8 → M α} {n : Nat} {Q : α → Hp → Nat → Prop}, Wp (f l) s.heap.get n Q → Wp ((iQ a).bind f) s.heap.get n Q := by
 cases a with
 | aV => obtain ⟨rfl, rfl⟩ := aC h; exact ⟨.refl _, fun hw => by simp only [iQ, aB]; exact hw⟩
 | emp => obtain ⟨rfl, rfl⟩ := aC h; exact ⟨.refl _, fun hw => by simp only [iQ, aB]; exact hw⟩
 | str l => obtain ⟨rfl, rfl⟩ := aC h; exact ⟨.refl _, fun hw => by simp only [iQ, aB]; exact hw⟩
 | sl id off len cap sz =>
  obtain ⟨rfl, h1⟩ := eO h
  obtain ⟨cs, s1, h2, h3, ho1, _, _⟩ := M.aH h1 ho
  obtain ⟨e3, q1, q2⟩ := AM h3 ho
  unfold aW at h2
  obtain ⟨b, s2, h4, h5, ho2, _, _⟩ := M.aH h2 ho1
  obtain ⟨hg, e1⟩ := eC h4
  obtain ⟨c, t, rfl, h6⟩ := jD h5
  obtain ⟨_, s3, h7, h8, ho3, _, _⟩ := M.aH h6 ho1
  obtain ⟨hb, e2⟩ := eY h7 ho3
  obtain ⟨rfl, rfl⟩ := aC h8
  refine ⟨(e1.trans e2).trans e3, fun hw => ?_⟩
  subst q2
  simp only [iQ, aW, nA, bE, bind_assoc, fW, hg, Option.some.injEq, exists_eq_left', cT, fP, show (Nat.beq 1 1) = true from rfl, aB, hb, q1, true_and]
  exact hw
 | isl g sz off len =>
  obtain ⟨rfl, h1⟩ := eO h
  obtain ⟨cs, s1, h2, h3, ho1, _, _⟩ := M.aH h1 ho
  obtain ⟨e3, q1, q2⟩ := AM h3 ho
  unfold aW at h2
  obtain ⟨_, s3, h7, h8, ho3, _, _⟩ := M.aH h2 ho1
  obtain ⟨hb, e2⟩ := eY h7 ho3
  obtain ⟨rfl, rfl⟩ := aC h8
  refine ⟨e2.trans e3, fun hw => ?_⟩
  subst q2
  simp only [iQ, aW, nA, bE, bind_assoc, fP, show (Nat.beq 1 1) = true from rfl, aB, hb, q1, true_and]
  exact hw
 | _ => exact (aD h).elim
theorem DR {x y : a9} {v : a9} {s s' : St} (h : (dR [x, y]).run s = .ok v s') (ho : cF s') : gL s s' ∧ Wp (dR [x, y]) s.heap.get s.next fun v' h' n' => v' = v ∧ h' = s.heap.get ∧ n' = s.next := by
 unfold dR at h
 obtain ⟨a, s1, h1, h2, ho1, _, _⟩ := M.aH h ho
 obtain ⟨b, s2, h3, h4, ho2, _, _⟩ := M.aH h2 ho
 obtain ⟨rfl, rfl⟩ := aC h4
 obtain ⟨e1, q1⟩ := yO h1 ho1
 obtain ⟨e2, q2⟩ := yO h3 ho2
 refine ⟨e1.trans e2, ?_⟩
 unfold dR
 refine q1 ?_
 rw [e1.heap] at q2
 exact q2 (aM.2 ⟨rfl, rfl, rfl⟩)
theorem yC {h : Hp} {n : Nat} {x y : a9} {a b : List UInt8} (hx : Bytes h x a) (hy : Bytes h y b) : Rd (dR [x, y]) h n (rid y ++ rid x) (.int .i64 (Lib.compareBytes a b)) := by
 have one : ∀ {v : a9} {l : List UInt8}, Bytes h v l → Rd (iQ v) h n (rid v) l := fun {v l} hb => by
  cases hb with
  | aV => exact Rd.pure _
  | isl g off l hf =>
   simp only [iQ, aW, nA, bE, show (Nat.beq 1 1) = true from rfl]
   rw [jQ g l.length off (l.map u8) (by simp) (fun j hj => by rw [hf j (by simpa using hj)]; simp)]
   refine Rd.bind (i1 := []) (i2 := []) (Rd.bind (i1 := []) (i2 := []) (Rd.ob (dS (Nat.le_refl _))) (Rd.pure _)) ?_
   refine Rd.bind (i1 := []) (i2 := []) (Rd.ob (qZ l)) ?_
   rw [kJ]
   exact Rd.pure _
  | sl id off cap c e l hh hs hc =>
   have := bK.pE (c := c) (off := off) (l := l.map u8) (by simpa using hs) (fun j hj => by rw [hc j (by simpa using hj)]; simp)
   simp only [List.length_map] at this
   simp only [iQ, aW, nA, bE, show (Nat.beq 1 1) = true from rfl]
   refine Rd.bind (i1 := [id]) (i2 := []) (a := l.map u8) (Rd.bind (i1 := [id]) (i2 := []) (Rd.get hh) ?_) ?_
   ·simp only [cT]
    refine Rd.bind (i1 := []) (i2 := []) (Rd.ob (dS hs)) ?_
    rw [this]
    exact Rd.pure _
   ·refine Rd.bind (i1 := []) (i2 := []) (Rd.ob (qZ l)) ?_
    rw [kJ]
    exact Rd.pure _
 unfold dR
 refine Rd.bind (i2 := rid y) (one hx) ?_
 exact Rd.bind (i1 := rid y) (i2 := []) (one hy) (Rd.pure _)
theorem EW {E : Env} (f : FuncId) : ∀ {l : List (u0 E.P)} {args : List a9} {k : M a9}, (l.all fun x => !(x.f.beq f)) = true → pU E l f args k = k
 | [], _, _, _ => rfl
 | x :: l, _, _, h => by
  rw [List.all_cons, Bool.and_eq_true] at h
  unfold pU
  cases c : x.f.beq f with
  | true => rw [c] at h; cases h.1
  | false => exact EW f h.2
theorem MF {P : Program} {l : List (p8 P)} (f : FuncId) (h : (l.all fun x => !(x.fn.beq f)) = true) : ∀ k, kP l f k = true := fun k => by
 unfold kP
 rw [List.all_eq_true] at h ⊢
 intro x hx
 have := h x hx
 cases c : x.fn.beq f with
 | true => rw [c] at this; cases this
 | false => rfl
def l8 : List (Nat × a9) → List a9
 | [] => []
 | x :: l => List.replicate x.1 x.2 ++ l8 l
def rle : Bool → List Nat → List Bool
 | _, [] => []
 | b, n :: l => List.replicate n b ++ rle (!b) l
abbrev T := true
abbrev F := false
end Go.Am
