/- The abstract machine's actions on memory do what the model's do: what is written, what is made. -/
import Derived.Test.YtmoplhbncjicbaaAmC
set_option linter.unusedSimpArgs false
set_option linter.unusedVariables false
namespace Go.Am
open Go

variable {E : Env}

def World.upd (w : World) (b : Nat) (o : Obj) : World := { w with heap := w.heap.setIfInBounds b o }
theorem World.upd_get (w : World) (b : Nat) (o : Obj) (h : b < w.heap.size) (j : Nat) : (World.upd w b o).heap[j]? = if j = b then some o else w.heap[j]? := by
  simp only [World.upd, Array.getElem?_setIfInBounds]
  by_cases e : b = j
  · subst e; simp [h]
  · have : ¬ j = b := fun x => e x.symm
    simp [e, this]
theorem World.upd_fr (w : World) (b : Nat) (o : Obj) : Fr w (World.upd w b o) := ⟨rfl, rfl, rfl, by simp [World.upd]⟩
theorem World.upd_same (w : World) (b : Nat) (o : Obj) (h : w.heap[b]? = some o) : World.upd w b o = w := by
  obtain ⟨hb, he⟩ := Array.getElem?_eq_some_iff.1 h
  have : w.heap.setIfInBounds b o = w.heap := by
    apply Array.ext_getElem?
    intro i
    rw [Array.getElem?_setIfInBounds]
    by_cases e : b = i
    · subst e; simp [hb, h, he]
    · simp [e]
  unfold World.upd
  rw [this]
theorem World.upd_upd (w : World) (b : Nat) (o o' : Obj) : World.upd (World.upd w b o) b o' = World.upd w b o' := by
  simp only [World.upd]
  congr 1
  apply Array.ext_getElem?
  intro i
  simp only [Array.getElem?_setIfInBounds, Array.size_setIfInBounds]
  by_cases e : b = i
  · simp [e]
  · simp [e]
theorem setCell_upd (w : World) (b off : Nat) (v : Value) (arr : Array Value) (t : TypeId) (fr : Nat × Nat) (h : w.heap[b]? = some (.cells arr t fr)) :
    w.setCell ⟨b, off, none⟩ v = World.upd w b (.cells (arr.setIfInBounds off v) t fr) := by
  obtain ⟨hb, he⟩ := Array.getElem?_eq_some_iff.1 h
  unfold World.setCell World.upd
  congr 1
  apply Array.ext_getElem?
  intro i
  rw [Array.getElem?_modify, Array.getElem?_setIfInBounds]
  by_cases e : b = i
  · subst e
    simp [hb, h, he]
  · simp [e]

theorem lt_of_heap {w : World} {b : Nat} {o : Obj} (h : w.heap[b]? = some o) : b < w.heap.size := (Array.getElem?_eq_some_iff.1 h).1

/-- A block's content turns. -/
theorem Rel.upd {P : Program} {ρ : Ren} {m : Mem} {h h' : Nat → Option Blk} {w : World} (hr : Rel P ρ m h w) {id : Nat} {b0 b : Blk} {o : Obj} {r : RB} (hg : h id = some b0) (hρ : ρ id = some r)
    (hb : BR P ρ m r b o) (hh : ∀ j, h' j = if j = id then some b else h j) : Rel P ρ m h' (World.upd w r.b o) where
  live := fun j c hj => by
    obtain ⟨rb, o0, k1, k2, k3, k4⟩ := hr.live id b0 hg
    rw [hρ] at k1
    injection k1 with k1
    subst k1
    have hlt := lt_of_heap k2
    rw [hh j] at hj
    by_cases e : j = id
    · subst e
      simp only [if_true, Option.some.injEq] at hj
      subst hj
      exact ⟨r, o, hρ, by rw [World.upd_get _ _ _ hlt]; simp, hb, k4⟩
    · simp only [e, if_false] at hj
      obtain ⟨rb, o1, q1, q2, q3, q4⟩ := hr.live j c hj
      refine ⟨rb, o1, q1, ?_, q3, q4⟩
      rw [World.upd_get _ _ _ hlt]
      have : rb.b ≠ r.b := fun x => e (hr.inj j id c b0 rb r hj hg q1 hρ x)
      simp [this, q2]
  inj := fun i j b1 b2 r1 r2 h1 h2 h3 h4 h5 => by
    rw [hh] at h1 h2
    have g1 : ∃ c, h i = some c := by
      by_cases e : i = id
      · subst e; exact ⟨_, hg⟩
      · simp only [e, if_false] at h1; exact ⟨_, h1⟩
    have g2 : ∃ c, h j = some c := by
      by_cases e : j = id
      · subst e; exact ⟨_, hg⟩
      · simp only [e, if_false] at h2; exact ⟨_, h2⟩
    obtain ⟨c1, g1⟩ := g1
    obtain ⟨c2, g2⟩ := g2
    exact hr.inj i j c1 c2 r1 r2 g1 g2 h3 h4 h5
  mem := fun x ob hx => by
    obtain ⟨rb, o0, k1, k2, k3, k4⟩ := hr.live id b0 hg
    rw [hρ] at k1
    injection k1 with k1
    subst k1
    rw [World.upd_get _ _ _ (lt_of_heap k2)]
    have : x ≠ r.b := fun e => by subst e; rw [k4] at hx; cases hx
    simp [this, hr.mem x ob hx]
theorem Rel.kill {P : Program} {ρ : Ren} {m : Mem} {h h' : Nat → Option Blk} {w : World} (hr : Rel P ρ m h w) {id : Nat} (hh : ∀ j, h' j = if j = id then none else h j) : Rel P ρ m h' w where
  live := fun j c hj => by
    rw [hh j] at hj
    by_cases e : j = id
    · simp [e] at hj
    · simp only [e, if_false] at hj
      exact hr.live j c hj
  inj := fun i j b1 b2 r1 r2 h1 h2 h3 h4 h5 => by
    rw [hh] at h1 h2
    by_cases e : i = id
    · simp [e] at h1
    by_cases e2 : j = id
    · simp [e2] at h2
    simp only [e, e2, if_false] at h1 h2
    exact hr.inj i j b1 b2 r1 r2 h1 h2 h3 h4 h5
  mem := hr.mem
def Ren.put (ρ : Ren) (id : Nat) (r : RB) : Ren := fun j => if j = id then some r else ρ j
theorem RenLe.put {ρ : Ren} {id : Nat} {r : RB} (h : ρ id = none) : RenLe ρ (ρ.put id r) := fun j q hj => by
  unfold Ren.put
  by_cases e : j = id
  · subst e; rw [h] at hj; cases hj
  · simp [e, hj]
theorem alloc_get (w : World) (o : Obj) (j : Nat) : (w.alloc o).heap[j]? = if j = w.heap.size then some o else w.heap[j]? := by
  show (w.heap.push o)[j]? = _
  rw [Array.getElem?_push]
theorem Fr.alloc (w : World) (o : Obj) : Fr w (w.alloc o) := ⟨rfl, rfl, rfl, by rw [World.size_alloc]; omega⟩
theorem Fr.drew (w : World) : Fr w { w with drawn := w.drawn + 1 } := ⟨rfl, rfl, rfl, Nat.le_refl _⟩
theorem Rel.drew {P : Program} {ρ : Ren} {m : Mem} {h : Nat → Option Blk} {w : World} (hr : Rel P ρ m h w) : Rel P ρ m h { w with drawn := w.drawn + 1 } := ⟨hr.live, hr.inj, hr.mem⟩
theorem MLe.refl (m : Mem) : MLe m m := ⟨fun _ _ _ _ h => h⟩
theorem RenLe.refl (ρ : Ren) : RenLe ρ ρ := fun _ _ h => h
/-- A new block. -/
theorem Rel.new {P : Program} {ρ : Ren} {m : Mem} {h h' : Nat → Option Blk} {w : World} (hr : Rel P ρ m h w) {id n s : Nat} {b : Blk} {o : Obj} (hρ : ρ id = none)
    (hb : BR P (ρ.put id ⟨w.heap.size, n, s⟩) m ⟨w.heap.size, n, s⟩ b o) (hh : ∀ j, h' j = if j = id then some b else h j) : Rel P (ρ.put id ⟨w.heap.size, n, s⟩) m h' (w.alloc o) where
  live := fun j c hj => by
    rw [hh j] at hj
    by_cases e : j = id
    · subst e
      simp only [if_true, Option.some.injEq] at hj
      subst hj
      refine ⟨_, o, by simp [Ren.put], by rw [alloc_get]; simp, hb, ?_⟩
      cases hm : m w.heap.size with
      | none => rfl
      | some q => have := lt_of_heap (hr.mem _ _ hm); omega
    · simp only [e, if_false] at hj
      obtain ⟨rb, o1, q1, q2, q3, q4⟩ := hr.live j c hj
      refine ⟨rb, o1, RenLe.put hρ _ _ q1, ?_, q3.mono (RenLe.put hρ) (.refl m), q4⟩
      rw [alloc_get]
      have := lt_of_heap q2
      have : rb.b ≠ w.heap.size := by omega
      simp [this, q2]
  inj := fun i j b1 b2 r1 r2 h1 h2 h3 h4 h5 => by
    rw [hh] at h1 h2
    unfold Ren.put at h3 h4
    by_cases e : i = id
    · by_cases e2 : j = id
      · rw [e, e2]
      · simp only [e, e2, if_true, if_false, Option.some.injEq] at h2 h3 h4
        obtain ⟨rb, o1, q1, q2, _⟩ := hr.live j b2 h2
        rw [q1] at h4
        injection h4 with h4
        subst h4
        have := lt_of_heap q2
        subst h3
        simp only at h5
        omega
    · by_cases e2 : j = id
      · simp only [e, e2, if_true, if_false, Option.some.injEq] at h1 h3 h4
        obtain ⟨rb, o1, q1, q2, _⟩ := hr.live i b1 h1
        rw [q1] at h3
        injection h3 with h3
        subst h3
        have := lt_of_heap q2
        subst h4
        simp only at h5
        omega
      · simp only [e, e2, if_false] at h1 h2 h3 h4
        exact hr.inj i j b1 b2 r1 r2 h1 h2 h3 h4 h5
  mem := fun x ob hx => by
    rw [alloc_get]
    have := lt_of_heap (hr.mem x ob hx)
    have : x ≠ w.heap.size := by omega
    simp [this, hr.mem x ob hx]

/-! ### Writing cells -/
theorem run_storeCells (P : Program) (b o : Nat) (t : TypeId) (fr : Nat × Nat) : ∀ (vs : List Value) (i : Nat) (w : World) (arr : Array Value), w.heap[b]? = some (.cells arr t fr) →
    (∀ j, j < arr.size → ¬ (fr.1 ≤ j ∧ j < fr.2)) → o + i + vs.length ≤ arr.size → (∀ v ∈ vs, v.oneCell' = true) →
    ∃ arr', (storeCells ⟨b, o, none⟩ vs i).run P w = .ok () (World.upd w b (.cells arr' t fr)) ∧ arr'.size = arr.size ∧ ∀ j, arr'[j]? = if o + i ≤ j ∧ j < o + i + vs.length then vs[j - (o + i)]? else arr[j]? := by
  intro vs
  induction vs with
  | nil =>
    intro i w arr h hf hl h1
    refine ⟨arr, ?_, rfl, fun j => ?_⟩
    · rw [World.upd_same _ _ _ h]; rfl
    · have : ¬ (o + i ≤ j ∧ j < o + i + ([] : List Value).length) := by simp
      rw [if_neg this]
  | cons v vs ih =>
    intro i w arr h hf hl h1
    simp only [List.length_cons] at hl
    have hv := h1 v (by simp)
    have hc : w.cell? ⟨b, o + i, none⟩ = some arr[o + i] := by
      simp only [World.cell?, h]
      simp [show o + i < arr.size by omega]
    have hz : w.frozen? ⟨b, o + i, none⟩ = false := by
      simp only [World.frozen?, h]
      have := hf (o + i) (by omega)
      simp only [Bool.and_eq_false_iff, decide_eq_false_iff_not]
      by_cases hle : fr.1 ≤ o + i
      · right; exact fun hlt => this ⟨hle, hlt⟩
      · left; exact hle
    have hs : (Go.store ((⟨b, o, none⟩ : Addr).add i) v).run P w = .ok () (World.upd w b (.cells (arr.setIfInBounds (o + i) v) t fr)) := by
      rw [add_plain]
      rw [run_store P w _ v .plain hv, hc]
      simp only [hz, Bool.false_eq_true, if_false]
      rw [setCell_upd _ _ _ _ _ _ _ h]
    have hlt := lt_of_heap h
    obtain ⟨arr', e1, e2, e3⟩ := ih (i + 1) (World.upd w b (.cells (arr.setIfInBounds (o + i) v) t fr)) (arr.setIfInBounds (o + i) v) (by rw [World.upd_get _ _ _ hlt]; simp) (by simpa using hf) (by simp; omega)
      (fun u hu => h1 u (by simp [hu]))
    refine ⟨arr', ?_, by simpa using e2, fun j => ?_⟩
    · simp only [storeCells, Sem.run_bind]
      rw [hs, Result.andThen_ok, e1, World.upd_upd]
    · rw [e3 j]
      by_cases c1 : o + (i + 1) ≤ j ∧ j < o + (i + 1) + vs.length
      · have c2 : o + i ≤ j ∧ j < o + i + (v :: vs).length := by simp; omega
        rw [if_pos c1, if_pos c2]
        have : j - (o + i) = (j - (o + (i + 1))) + 1 := by omega
        rw [this, List.getElem?_cons_succ]
      · rw [if_neg c1]
        by_cases c3 : j = o + i
        · subst c3
          have c2 : o + i ≤ o + i ∧ o + i < o + i + (v :: vs).length := by simp
          rw [if_pos c2]
          simp [show o + i < arr.size by omega]
        · have c2 : ¬ (o + i ≤ j ∧ j < o + i + (v :: vs).length) := by simp only [List.length_cons]; omega
          rw [if_neg c2, Array.getElem?_setIfInBounds]
          simp [show o + i ≠ j by omega]
theorem setAll_size : ∀ (vs : List AVal) (c : Cont) (off : Nat), (setAll c off vs).size = c.size
  | [], _, _ => rfl
  | v :: vs, c, off => by
    simp only [setAll]
    rw [setAll_size vs]
    cases c <;> simp [Cont.set, Cont.size, put_length]
theorem Cont.set_at (c : Cont) (i : Nat) (v : AVal) (j : Nat) (hi : i < c.size) : (c.set i v).at j = if j = i then v else c.at j := by
  cases c with
  | l xs =>
    simp only [Cont.size] at hi
    simp only [Cont.set, Cont.at, nth_get, put_get]
    by_cases e : j = i
    · simp [e, hi]
    · simp [e]
  | f n g =>
    simp only [Cont.set, Cont.at]
    by_cases e : j = i
    · subst e; simp
    · have : j.beq i = false := by
        cases hb : j.beq i with
        | false => rfl
        | true => exact absurd (Nat.eq_of_beq_eq_true hb) e
      simp [this, e]
theorem setAll_at : ∀ (vs : List AVal) (c : Cont) (off j : Nat), off + vs.length ≤ c.size → (setAll c off vs).at j = if off ≤ j ∧ j < off + vs.length then (vs[j - off]?).getD .junk else c.at j
  | [], c, off, j, _ => by
    have : ¬ (off ≤ j ∧ j < off + ([] : List AVal).length) := by simp only [List.length_nil]; omega
    rw [if_neg this]; rfl
  | v :: vs, c, off, j, h => by
    simp only [List.length_cons] at h
    simp only [setAll]
    rw [setAll_at vs (c.set off v) (off + 1) j (by cases c <;> simp_all [Cont.set, Cont.size, put_length] <;> omega)]
    rw [Cont.set_at _ _ _ _ (by omega)]
    by_cases c1 : off + 1 ≤ j ∧ j < off + 1 + vs.length
    · have c2 : off ≤ j ∧ j < off + (v :: vs).length := by simp; omega
      rw [if_pos c1, if_pos c2]
      have : j - off = (j - (off + 1)) + 1 := by omega
      rw [this, List.getElem?_cons_succ]
    · rw [if_neg c1]
      by_cases c3 : j = off
      · subst c3
        have c2 : j ≤ j ∧ j < j + (v :: vs).length := by simp
        rw [if_pos c2]
        simp
      · have c2 : ¬ (off ≤ j ∧ j < off + (v :: vs).length) := by simp only [List.length_cons]; omega
        rw [if_neg c2, if_neg c3]
theorem R.oneCell {ρ : Ren} {m : Mem} {v : AVal} {x : Value} (h : R ρ m v x) (h1 : oneCell v = true) : x.oneCell' = true := by
  cases h <;> first | rfl | simp [Am.oneCell] at h1
theorem writeCells_sim {P : Program} {v : AVal} {vs : List AVal} {u : Unit} {s s' : St} (h : (writeCells v vs).run s = .ok u s') (ho : OkObs s') {ρ : Ren} {m : Mem} {w : World}
    (hr : Rel P ρ m s.heap.get w) {x : Value} (hx : R ρ m v x) {xs : List Value} (hl : vs.length = xs.length) (hxs : ∀ (i : Nat) a b, vs[i]? = some a → xs[i]? = some b → R ρ m a b) :
    ∃ a w', x = .pointer (some a) ∧ (storeCells a xs).run P w = .ok () w' ∧ Post P ρ m s w ρ m s' w' := by
  unfold writeCells at h
  split at h
  · rename_i id off
    obtain ⟨b, s1, h1, h2, ho1, _, _⟩ := M.bind_did h ho
    obtain ⟨hg, e1⟩ := get_ok h1
    obtain ⟨c, t, rfl, h3⟩ := row_ok h2
    obtain ⟨_, s2, h4, h5, ho2, _, _⟩ := M.bind_did h3 ho
    obtain ⟨hb, e2⟩ := ob_ok h4 ho2
    cases hall : vs.all oneCell with
    | false => rw [hall] at h5; exact (fail_ok h5).elim
    | true =>
      rw [hall] at h5
      obtain ⟨_, hn, hset⟩ := set_ok h5
      have es := e1.trans e2
      cases hx with
      | ptr id off r hρ =>
        obtain ⟨arr, fr, ha, hs, hn', hc, hrr, hf, hm⟩ := hr.row hg hρ
        have hle : off + vs.length ≤ c.size := by simpa using hb
        have hone : ∀ y ∈ xs, y.oneCell' = true := by
          intro y hy
          obtain ⟨i, hi⟩ := List.getElem?_of_mem hy
          have hlt := (List.getElem?_eq_some_iff.1 hi).1
          have hv : vs[i]? = some vs[i] := List.getElem?_eq_getElem (by omega)
          exact (hxs i _ _ hv hi).oneCell (List.all_eq_true.1 hall _ (List.getElem_mem _))
        obtain ⟨arr', g1, g2, g3⟩ := run_storeCells P r.b off t fr xs 0 w arr ha hf.out (by omega) hone
        refine ⟨_, _, rfl, g1, ⟨.refl ρ, fun _ h => .inl h, fun _ _ h => h, ?_, World.upd_fr _ _ _, by rw [hn, es.next]; exact Nat.le_refl _⟩⟩
        refine hr.upd hg hρ (.row r (setAll c off vs) t arr' fr hs (by omega) (by rw [setAll_size]; omega) ?_ (by rw [g2]; exact hf)) (fun j => by rw [hset j, es.heap])
        intro j y hj hy
        rw [setAll_size] at hj
        rw [g3 j] at hy
        rw [setAll_at vs c off j hle]
        by_cases c1 : off ≤ j ∧ j < off + vs.length
        · have c2 : off + 0 ≤ j ∧ j < off + 0 + xs.length := by omega
          rw [if_pos c2] at hy
          rw [if_pos c1]
          have hv : vs[j - off]? = some vs[j - off] := List.getElem?_eq_getElem (by omega)
          rw [hv]
          exact hxs (j - off) _ _ hv (by simpa using hy)
        · have c2 : ¬ (off + 0 ≤ j ∧ j < off + 0 + xs.length) := by omega
          rw [if_neg c2] at hy
          rw [if_neg c1]
          exact hrr j y hj hy
  · exact (fail_ok h).elim

/-- A new row: the cells that are known, and more behind them perhaps. -/
theorem newRow_sim {P : Program} {c : Cont} {t : TypeId} {id : Nat} {s s' : St} (h : (newB (.row c t)).run s = .ok id s') {ρ : Ren} {m : Mem} {w : World}
    (hr : Rel P ρ m s.heap.get w) (hf : Fresh ρ s s') {i : TI} (ht : TOk P t i) {arr : Array Value} (hc : c.size ≤ arr.size) (hrr : ∀ j x, j < c.size → arr[j]? = some x → R ρ m (c.at j) x) :
    id = s.next ∧ Post P ρ m s w (ρ.put id ⟨w.heap.size, arr.size, i.size⟩) m s' (w.alloc (.cells arr t)) := by
  obtain ⟨h1, h2, h3⟩ := new_ok h
  have hρ : ρ id = none := hf id ⟨by omega, by omega⟩
  refine ⟨h1, ⟨RenLe.put hρ, fun j hj => ?_, fun _ _ h => h, ?_, .alloc _ _, by omega⟩⟩
  · unfold Ren.put at hj
    by_cases e : j = id
    · exact .inr ⟨by omega, by omega⟩
    · simp only [e, if_false] at hj
      exact .inl hj
  · exact hr.new hρ (.row _ c t arr (0, 0) ht.size_info rfl hc (fun j x hj hx => (hrr j x hj hx).mono (RenLe.put hρ) (.refl m)) (.inl rfl)) h3
end Go.Am
