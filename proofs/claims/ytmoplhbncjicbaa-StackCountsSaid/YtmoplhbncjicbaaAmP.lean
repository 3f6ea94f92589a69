/- The abstract machine's operations do what the model's do: parts, places, indexes. -/
import Derived.Test.YtmoplhbncjicbaaAmO
set_option linter.unusedSimpArgs false
set_option linter.unusedVariables false
namespace Go.Am
open Go

variable {E : Env}
section
variable {ρ : Ren} {m : Mem} {s s' : St} {w : World} {v : AVal}

/-! ### fill -/
theorem foldl_set_size (off : Nat) : ∀ (l : List (Value × Nat)) (cs : Array Value), (l.foldl (fun cs (c, j) => cs.setIfInBounds (off + j) c) cs).size = cs.size
  | [], _ => rfl
  | p :: l, cs => by simp [List.foldl_cons, foldl_set_size off l]
theorem foldl_set_get (off : Nat) : ∀ (l : List Value) (k : Nat) (cs : Array Value) (i : Nat), off + k + l.length ≤ cs.size →
    ((l.zipIdx k).foldl (fun cs (c, j) => cs.setIfInBounds (off + j) c) cs)[i]? = if off + k ≤ i ∧ i < off + k + l.length then l[i - (off + k)]? else cs[i]?
  | [], k, cs, i, _ => by
    have : ¬ (off + k ≤ i ∧ i < off + k + ([] : List Value).length) := by simp only [List.length_nil]; omega
    rw [if_neg this]; rfl
  | c :: l, k, cs, i, h => by
    simp only [List.length_cons] at h
    simp only [List.zipIdx_cons, List.foldl_cons]
    rw [foldl_set_get off l (k + 1) _ i (by simp; omega)]
    by_cases c1 : off + (k + 1) ≤ i ∧ i < off + (k + 1) + l.length
    · have c2 : off + k ≤ i ∧ i < off + k + (c :: l).length := by simp only [List.length_cons]; omega
      rw [if_pos c1, if_pos c2]
      have : i - (off + k) = (i - (off + (k + 1))) + 1 := by omega
      rw [this, List.getElem?_cons_succ]
    · rw [if_neg c1]
      by_cases c3 : i = off + k
      · subst c3
        have c2 : off + k ≤ off + k ∧ off + k < off + k + (c :: l).length := by simp
        rw [if_pos c2]
        simp [show off + k < cs.size by omega]
      · have c2 : ¬ (off + k ≤ i ∧ i < off + k + (c :: l).length) := by simp only [List.length_cons]; omega
        rw [if_neg c2, Array.getElem?_setIfInBounds]
        simp [show off + k ≠ i by omega]
inductive RP (ρ : Ren) (m : Mem) : List (Nat × AVal) → List (Nat × Value) → Prop
  | nil : RP ρ m [] []
  | cons (i : Nat) (v : AVal) (x : Value) (l : List (Nat × AVal)) (l' : List (Nat × Value)) (h : R ρ m v x) (hl : RP ρ m l l') : RP ρ m ((i, v) :: l) ((i, x) :: l')
theorem splice_length {cs vs : List AVal} {off : Nat} (h : off + vs.length ≤ cs.length) : (cs.take off ++ vs ++ cs.drop (off + vs.length)).length = cs.length := by
  simp only [List.length_append, List.length_take, List.length_drop]; omega
theorem splice_get {cs vs : List AVal} {off : Nat} (h : off + vs.length ≤ cs.length) (i : Nat) :
    (cs.take off ++ vs ++ cs.drop (off + vs.length))[i]? = if off ≤ i ∧ i < off + vs.length then vs[i - off]? else cs[i]? := by
  by_cases c1 : i < off
  · have c2 : ¬ (off ≤ i ∧ i < off + vs.length) := by omega
    rw [if_neg c2, List.append_assoc, List.getElem?_append_left (by simp; omega), List.getElem?_take_of_lt c1]
  · by_cases c3 : i < off + vs.length
    · rw [if_pos ⟨by omega, c3⟩, List.getElem?_append_left (by simp; omega), List.getElem?_append_right (by simp; omega)]
      congr 1; simp; omega
    · have c2 : ¬ (off ≤ i ∧ i < off + vs.length) := by omega
      rw [if_neg c2, List.getElem?_append_right (by simp; omega), List.getElem?_drop]
      congr 1; simp; omega
theorem fill_sim {place : Nat → Option (Nat × Nat)} : ∀ (parts : List (Nat × AVal)) (parts' : List (Nat × Value)) (cs : List AVal) (xs : Array Value) (out : List AVal), RP ρ m parts parts' → RL ρ m cs xs →
    fill place cs parts = some out → ∃ out', Instr.fill place xs parts' = some out' ∧ RL ρ m out out'
  | [], _, cs, xs, out, hp, hc, h => by
    cases hp
    simp only [fill, Option.some.injEq] at h
    subst h
    exact ⟨xs, rfl, hc⟩
  | (i, v) :: parts, _, cs, xs, out, hp, hc, h => by
    cases hp with
    | cons _ _ x _ l' hv hl =>
      simp only [fill] at h
      cases hpl : place i with
      | none => rw [hpl] at h; cases h
      | some q =>
        obtain ⟨off, size⟩ := q
        rw [hpl] at h
        simp only at h
        split at h
        · rename_i hcond
          simp only [Bool.and_eq_true] at hcond
          have hsz := Nat.eq_of_beq_eq_true hcond.1.2
          have hle := Nat.le_of_ble_eq_true hcond.2
          have hvc := hv.cells (by rintro rfl; simp [isJunk] at hcond)
          have hlen : x.cells.size = v.cells.length := hvc.len.symm
          have hcl : xs.size = cs.length := hc.len.symm
          simp only [Instr.fill, hpl]
          have e1 : ¬ (x.cells.size ≠ size ∨ off + x.cells.size > xs.size) := by omega
          have e1' : (x.cells.size ≠ size || decide (off + x.cells.size > xs.size)) = false := by
            simp only [Bool.or_eq_false_iff, decide_eq_false_iff_not, ne_eq]
            omega
          simp only [e1', Bool.false_eq_true, if_false]
          refine fill_sim parts l' _ _ out hl ⟨?_, ?_⟩ h
          · rw [splice_length hle]
            simp only [← Array.foldl_toList, Array.toList_zipIdx, foldl_set_size, hcl]
          · intro k a b ha hb
            rw [splice_get hle] at ha
            simp only [← Array.foldl_toList, Array.toList_zipIdx] at hb
            rw [foldl_set_get off x.cells.toList 0 xs k (by simp; omega)] at hb
            by_cases c1 : off ≤ k ∧ k < off + v.cells.length
            · rw [if_pos c1] at ha
              have c2 : off + 0 ≤ k ∧ k < off + 0 + x.cells.toList.length := by simp; omega
              rw [if_pos c2] at hb
              exact hvc.at_ (k - off) a b ha (by simpa using hb)
            · rw [if_neg c1] at ha
              have c2 : ¬ (off + 0 ≤ k ∧ k < off + 0 + x.cells.toList.length) := by simp; omega
              rw [if_neg c2] at hb
              exact hc.at_ k a b ha hb
        · cases h

theorem sizesOf_ok : ∀ (fs : List Field) {ps : List (Nat × Nat)} {s s' : St}, (sizesOf E fs).run s = .ok ps s' → s' = s ∧ ∀ w, ((fs.toArray.mapM fun f => do pure (f.offset, ← Go.sizeOf f.type) : Sem (Array (Nat × Nat))).run E.P w) = .ok ps.toArray w := by
  intro fs
  suffices H : ∀ (fs : List Field) {ps : List (Nat × Nat)} {s s' : St}, (sizesOf E fs).run s = .ok ps s' → s' = s ∧ ∀ w, ((fs.mapM fun f => do pure (f.offset, ← Go.sizeOf f.type) : Sem (List (Nat × Nat))).run E.P w) = .ok ps w by
    intro ps s s' h
    obtain ⟨h1, h2⟩ := H fs h
    refine ⟨h1, fun w => ?_⟩
    rw [List.mapM_toArray]
    simp only [Sem.run_map, h2 w, Result.andThen_ok]
  intro fs
  induction fs with
  | nil =>
    intro ps s s' h
    obtain ⟨rfl, rfl⟩ := pure_ok h
    exact ⟨rfl, fun w => rfl⟩
  | cons f fs ih =>
    intro ps s s' h
    obtain ⟨n, s1, h1, h2⟩ := M.bind_ok h
    obtain ⟨⟨i, hi, rfl⟩, rfl⟩ := sizeOf_ok h1
    obtain ⟨r, s2, h3, h4⟩ := M.bind_ok h2
    obtain ⟨rfl, rfl⟩ := pure_ok h4
    obtain ⟨rfl, h5⟩ := ih h3
    refine ⟨rfl, fun w => ?_⟩
    simp only [List.mapM_cons, Sem.run_bind, hi.run_size, Result.andThen_ok, Sem.run_pure, h5 w]
end
end Go.Am
