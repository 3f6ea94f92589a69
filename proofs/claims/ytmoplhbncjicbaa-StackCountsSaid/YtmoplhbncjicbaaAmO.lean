/- The abstract machine's operations do what the model's do. -/
import Derived.Test.YtmoplhbncjicbaaAmD
set_option linter.unusedSimpArgs false
set_option linter.unusedVariables false
namespace Go.Am
open Go

variable {E : Env}

def Out (P : Program) (ρ : Ren) (m : Mem) (s : St) (w : World) (s' : St) (v : AVal) (res : Result Value) : Prop :=
  ∃ x w' ρ', res = .ok x w' ∧ Post P ρ m s w ρ' m s' w' ∧ R ρ' m v x
theorem Post.of_same {P : Program} {ρ : Ren} {m : Mem} {s s' : St} {w : World} (h : Rel P ρ m s.heap.get w) (e : Same s s') : Post P ρ m s w ρ m s' w :=
  Post.same h (fun id => by rw [e.heap]) e.next
theorem Out.same {P : Program} {ρ : Ren} {m : Mem} {s s' : St} {w : World} {v : AVal} {x : Value} (h : Rel P ρ m s.heap.get w) (e : Same s s') (hx : R ρ m v x) : Out P ρ m s w s' v (.ok x w) :=
  ⟨x, w, ρ, rfl, .of_same h e, hx⟩

section
variable {ρ : Ren} {m : Mem} {s s' : St} {w : World} {v : AVal}

/-! ### load, store, alloc, box -/
theorem run_loadCells' {P : Program} {w : World} {a : Addr} {n : Nat} {xs : List Value} (h : ∀ j y, xs[j]? = some y → w.cell? (a.add j) = some y) (hl : xs.length = n) : (loadCells a n).run P w = .ok xs.toArray w := by
  subst hl
  exact run_loadCells_list w a xs h
theorem load_at {t : TypeId} {a : AVal} (h : (load E t a).run s = .ok v s') (ho : OkObs s') (hr : Rel E.P ρ m s.heap.get w) {x : Value} (hx : R ρ m a x) :
    ∃ ad y, x = .pointer (some ad) ∧ (loadVar t ad).run E.P w = .ok y w ∧ R ρ m v y ∧ Same s s' := by
  obtain ⟨i, s1, h1, h2⟩ := M.bind_ok h
  obtain ⟨hi, rfl⟩ := ti_ok h1
  have e1 := hi.run_isAgg (w := w)
  have e2 := hi.run_size (w := w)
  cases hb : aggB i.desc with
  | true =>
    rw [hb] at h2 e1
    obtain ⟨cs, s2, h3, h4, ho2, _, _⟩ := M.bind_did h2 ho
    obtain ⟨rfl, rfl⟩ := pure_ok h4
    obtain ⟨ad, xs, rfl, k1, k2, k3, k4, k5⟩ := readCells_sim h3 ho2 hr hx
    refine ⟨ad, _, rfl, ?_, .agg _ _ k3.len k3.at_, k5⟩
    simp only [loadVar, Sem.run_bind, Sem.run_pure, Result.andThen_ok, e1, e2, if_true, run_loadCells' k1 k2]
  | false =>
    rw [hb] at h2 e1
    obtain ⟨cs, s2, h3, h4, ho2, _, _⟩ := M.bind_did h2 ho
    have : ∃ c, cs = [c] ∧ v = c ∧ s' = s2 := by
      unfold oneOf at h4
      split at h4
      · obtain ⟨rfl, rfl⟩ := pure_ok h4; exact ⟨_, rfl, rfl, rfl⟩
      · exact (fail_ok h4).elim
    obtain ⟨c, rfl, rfl, rfl⟩ := this
    obtain ⟨ad, xs, rfl, k1, k2, k3, k4, k5⟩ := readCells_sim h3 ho2 hr hx
    obtain ⟨y, rfl⟩ : ∃ y, xs = [y] := by
      cases xs with
      | nil => cases k2
      | cons y l => cases l with
        | nil => exact ⟨y, rfl⟩
        | cons z l => simp at k2
    have hy := k1 0 y rfl
    have ha : ad.add 0 = ad := by simp [Addr.add]
    rw [ha] at hy
    refine ⟨ad, y, rfl, ?_, k3.at_ 0 _ _ rfl rfl, k5⟩
    simp only [loadVar, Sem.run_bind, Sem.run_pure, Result.andThen_ok, e1, Bool.false_eq_true, if_false, run_load, hy]
theorem load_sim {t : TypeId} {a : AVal} (h : (load E t a).run s = .ok v s') (ho : OkObs s') (hr : Rel E.P ρ m s.heap.get w) {x : Value} (hx : R ρ m a x) :
    Out E.P ρ m s w s' v ((Instr.loadAt t x).run E.P w) := by
  obtain ⟨ad, y, rfl, h1, h2, h3⟩ := load_at h ho hr hx
  simp only [Instr.loadAt, Instr.sureAddr, Sem.run_bind, Sem.run_pure, Result.andThen_ok, h1]
  exact .same hr h3 h2
theorem store_sim {t : TypeId} {a v : AVal} {u : Unit} (h : (store E t a v).run s = .ok u s') (ho : OkObs s') (hr : Rel E.P ρ m s.heap.get w) {x y : Value} (hx : R ρ m a x) (hy : R ρ m v y) :
    ∃ w', (Instr.storeAt t x y).run E.P w = .ok () w' ∧ Post E.P ρ m s w ρ m s' w' := by
  obtain ⟨i, s1, h1, h2⟩ := M.bind_ok h
  obtain ⟨hi, rfl⟩ := ti_ok h1
  have e2 := hi.run_size (w := w)
  cases hb : v.cells.length.beq i.size with
  | false => rw [hb] at h2; exact (fail_ok h2).elim
  | true =>
    rw [hb] at h2
    have hn := Nat.eq_of_beq_eq_true hb
    have hj : v ≠ .junk := by
      rintro rfl
      simp only [AVal.cells] at h2
      unfold writeCells at h2
      split at h2
      · obtain ⟨b, s1, k1, k2, ho1, _, _⟩ := M.bind_did h2 ho
        obtain ⟨c, t, rfl, k3⟩ := row_ok k2
        obtain ⟨_, s2, k4, k5, ho2, _, _⟩ := M.bind_did k3 ho
        exact (fail_ok k5).elim
      · exact (fail_ok h2).elim
    have hc := hy.cells hj
    obtain ⟨ad, w', rfl, k1, k2⟩ := writeCells_sim h2 ho hr hx (xs := y.cells.toList) (by simpa using hc.len) (fun i p q hp hq => hc.at_ i p q hp (by simpa using hq))
    refine ⟨w', ?_, k2⟩
    have hsz : y.cells.size = i.size := by rw [← hc.len]; exact hn
    simp only [Instr.storeAt, Instr.sureAddr, storeVar, Sem.run_bind, Sem.run_pure, Result.andThen_ok, e2, hsz, ne_eq, not_true_eq_false, if_false, k1]
theorem newVar_sim {t : TypeId} {v v' : AVal} (h : (alloc E t v).run s = .ok v' s') (ho : OkObs s') (hr : Rel E.P ρ m s.heap.get w) (hf : Fresh ρ s s') {y : Value} (hy : R ρ m v y) :
    ∃ a w' ρ', (newVar t y).run E.P w = .ok a w' ∧ Post E.P ρ m s w ρ' m s' w' ∧ R ρ' m v' (.pointer (some a)) := by
  unfold alloc at h
  split at h
  · exact (fail_ok h).elim
  rename_i hjb
  have hj : v ≠ .junk := by rintro rfl; cases hjb
  obtain ⟨id, s1, h1, h2⟩ := M.bind_ok h
  obtain ⟨rfl, rfl⟩ := pure_ok h2
  obtain ⟨i, s2, h3, h4⟩ := M.bind_ok h1
  obtain ⟨hi, rfl⟩ := ti_ok h3
  have hc := hy.cells hj
  obtain ⟨e, hp⟩ := newRow_sim h4 hr hf hi (arr := y.cells) (by simp [Cont.size, hc.len]) (fun j z hjz hz => by
    simp only [Cont.size] at hjz
    simp only [Cont.at, nth_get, List.getElem?_eq_getElem hjz, Option.getD_some]
    exact hc.at_ j _ z (List.getElem?_eq_getElem hjz) hz)
  refine ⟨⟨w.heap.size, 0, none⟩, _, _, ?_, hp, .ptr id 0 ⟨w.heap.size, y.cells.size, i.size⟩ (by simp [Ren.put])⟩
  simp only [newVar, Go.newRow, Sem.run_bind, run_newObj_alloc, Result.andThen_ok, Sem.run_pure]
end
end Go.Am
