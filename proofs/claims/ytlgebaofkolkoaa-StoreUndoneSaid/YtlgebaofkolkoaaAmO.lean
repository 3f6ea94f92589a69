/- The abstract machine. -/
import Derived.Test.YtlgebaofkolkoaaAmD
set_option linter.unusedSimpArgs false
set_option linter.unusedVariables false
namespace Go.Am
open Go
variable {E : Env}
def Out (P : Program) (ρ : Ren) (m : Mem) (s : St) (w : World) (s' : St) (v : a9) (res : Result Value) : Prop :=
 ∃ x w' ρ', res = .ok x w' ∧ eJ P ρ m s w ρ' m s' w' ∧ R ρ' m v x
theorem eJ.of_same {P : Program} {ρ : Ren} {m : Mem} {s s' : St} {w : World} (h : Rel P ρ m s.heap.get w) (e : fM s s') : eJ P ρ m s w ρ m s' w :=
 eJ.same h (fun id => by rw [e.heap]) e.next
theorem Out.same {P : Program} {ρ : Ren} {m : Mem} {s s' : St} {w : World} {v : a9} {x : Value} (h : Rel P ρ m s.heap.get w) (e : fM s s') (hx : R ρ m v x) : Out P ρ m s w s' v (.ok x w) :=
 ⟨x, w, ρ, rfl, .of_same h e, hx⟩
section
variable {ρ : Ren} {m : Mem} {s s' : St} {w : World} {v : a9}
theorem kX {P : Program} {w : World} {a : Addr} {n : Nat} {xs : List Value} (h : ∀ j y, xs[j]? = some y → w.cell? (a.add j) = some y) (hl : xs.length = n) : (loadCells a n).run P w = .ok xs.toArray w := by
 subst hl
 exact run_loadCells_list w a xs h
theorem EC {t : TypeId} {a : a9} (h : (load E t a).run s = .ok v s') (ho : bU s') (hr : Rel E.P ρ m s.heap.get w) {x : Value} (hx : R ρ m a x) :
  ∃ ad y, x = .pointer (some ad) ∧ (loadVar t ad).run E.P w = .ok y w ∧ R ρ m v y ∧ fM s s' := by
 obtain ⟨i, s1, h1, h2⟩ := M.aM h
 obtain ⟨hi, rfl⟩ := kR h1
 have e1 := hi.xJ (w := w)
 have e2 := hi.dJ (w := w)
 cases hb : eD i.desc with
 | true =>
  rw [hb] at h2 e1
  obtain ⟨cs, s2, h3, h4, ho2, _, _⟩ := M.aL h2 ho
  obtain ⟨rfl, rfl⟩ := aE h4
  obtain ⟨ad, xs, rfl, k1, k2, k3, k4, k5⟩ := gU h3 ho2 hr hx
  refine ⟨ad, _, rfl, ?_, .agg _ _ k3.len k3.at_, k5⟩
  simp only [loadVar, Sem.run_bind, Sem.run_pure, Result.andThen_ok, e1, e2, if_true, kX k1 k2]
 | false =>
  rw [hb] at h2 e1
  obtain ⟨cs, s2, h3, h4, ho2, _, _⟩ := M.aL h2 ho
  have : ∃ c, cs = [c] ∧ v = c ∧ s' = s2 := by
   unfold oneOf at h4
   split at h4
   ·obtain ⟨rfl, rfl⟩ := aE h4; exact ⟨_, rfl, rfl, rfl⟩
   ·exact (aG h4).elim
  obtain ⟨c, rfl, rfl, rfl⟩ := this
  obtain ⟨ad, xs, rfl, k1, k2, k3, k4, k5⟩ := gU h3 ho2 hr hx
  obtain ⟨y, rfl⟩ : ∃ y, xs = [y] := by
   cases xs with
   | nil => cases k2
   | cons y l => cases l with
    | nil => exact ⟨y, rfl⟩
    | cons z l => simp at k2
  have hy := k1 0 y rfl
  have ha : ad.add 0 = ad := by simp [Addr.add]
  rw [ha] at hy
  refine ⟨ad, y, rfl, ?_, k3.at_ 0 _ _ rfl rfl, k5⟩
  simp only [loadVar, Sem.run_bind, Sem.run_pure, Result.andThen_ok, e1, Bool.false_eq_true, if_false, run_load, hy]
theorem JF {t : TypeId} {a : a9} (h : (load E t a).run s = .ok v s') (ho : bU s') (hr : Rel E.P ρ m s.heap.get w) {x : Value} (hx : R ρ m a x) :
  Out E.P ρ m s w s' v ((Instr.loadAt t x).run E.P w) := by
 obtain ⟨ad, y, rfl, h1, h2, h3⟩ := EC h ho hr hx
 simp only [Instr.loadAt, Instr.sureAddr, Sem.run_bind, Sem.run_pure, Result.andThen_ok, h1]
 exact .same hr h3 h2
theorem FF {t : TypeId} {a v : a9} {u : Unit} (h : (store E t a v).run s = .ok u s') (ho : bU s') (hr : Rel E.P ρ m s.heap.get w) {x y : Value} (hx : R ρ m a x) (hy : R ρ m v y) :
  ∃ w', (Instr.storeAt t x y).run E.P w = .ok () w' ∧ eJ E.P ρ m s w ρ m s' w' := by
 obtain ⟨i, s1, h1, h2⟩ := M.aM h
 obtain ⟨hi, rfl⟩ := kR h1
 have e2 := hi.dJ (w := w)
 cases hb : v.cells.length.beq i.size with
 | false => rw [hb] at h2; exact (aG h2).elim
 | true =>
  rw [hb] at h2
  have hn := Nat.eq_of_beq_eq_true hb
  have hj : v ≠ .junk := by
   rintro rfl
   simp only [a9.cells] at h2
   unfold dN at h2
   split at h2
   ·obtain ⟨b, s1, k1, k2, ho1, _, _⟩ := M.aL h2 ho
    obtain ⟨c, t, rfl, k3⟩ := iN k2
    obtain ⟨_, s2, k4, k5, ho2, _, _⟩ := M.aL k3 ho
    exact (aG k5).elim
   ·exact (aG h2).elim
  have hc := hy.cells hj
  obtain ⟨ad, w', rfl, k1, k2⟩ := hO h2 ho hr hx (xs := y.cells.toList) (by simpa using hc.len) (fun i p q hp hq => hc.at_ i p q hp (by simpa using hq))
  refine ⟨w', ?_, k2⟩
  have hsz : y.cells.size = i.size := by rw [← hc.len]; exact hn
  simp only [Instr.storeAt, Instr.sureAddr, storeVar, Sem.run_bind, Sem.run_pure, Result.andThen_ok, e2, hsz, ne_eq, not_true_eq_false, if_false, k1]
theorem vA {t : TypeId} {v v' : a9} (h : (alloc E t v).run s = .ok v' s') (ho : bU s') (hr : Rel E.P ρ m s.heap.get w) (hf : eK ρ s s') {y : Value} (hy : R ρ m v y) :
  ∃ a w' ρ', (newVar t y).run E.P w = .ok a w' ∧ eJ E.P ρ m s w ρ' m s' w' ∧ R ρ' m v' (.pointer (some a)) := by
 unfold alloc at h
 split at h
 ·exact (aG h).elim
 rename_i hjb
 have hj : v ≠ .junk := by rintro rfl; cases hjb
 obtain ⟨id, s1, h1, h2⟩ := M.aM h
 obtain ⟨rfl, rfl⟩ := aE h2
 obtain ⟨i, s2, h3, h4⟩ := M.aM h1
 obtain ⟨hi, rfl⟩ := kR h3
 have hc := hy.cells hj
 obtain ⟨e, hp⟩ := qA h4 hr hf hi (arr := y.cells) (by simp [bM.size, hc.len]) (fun j z hjz hz => by
  simp only [bM.size] at hjz
  simp only [bM.at, fU, List.getElem?_eq_getElem hjz, Option.getD_some]
  exact hc.at_ j _ z (List.getElem?_eq_getElem hjz) hz)
 refine ⟨⟨w.heap.size, 0, none⟩, _, _, ?_, hp, .ptr id 0 ⟨w.heap.size, y.cells.size, i.size⟩ (by simp [Ren.put])⟩
 simp only [newVar, Go.newRow, Sem.run_bind, run_newObj_alloc, Result.andThen_ok, Sem.run_pure]
end
end Go.Am
