/- The abstract machine's actions on memory do what the model's do. -/
import Derived.Test.YtmoplhbncjicbaaAmB
import Derived.Laws.Sem
import Derived.Laws.World
import Derived.Laws.Cells
import Derived.Laws.Entries
import Derived.Laws.NewFold
set_option linter.unusedSimpArgs false
set_option linter.unusedVariables false
namespace Go.Am
open Go

variable {E : Env}

/-! ### What an action that went through has done -/
theorem pure_ok {α : Type} {a b : α} {s s' : St} (h : (M.pure a).run s = .ok b s') : b = a ∧ s' = s := by
  simp only [M.pure] at h
  injection h with h1 h2
  exact ⟨h1.symm, h2.symm⟩
theorem fail_ok {α : Type} {w : String} {b : α} {s s' : St} (h : (fail w : M α).run s = .ok b s') : False := by
  simp only [fail] at h
  cases h
/-- Memory is as it was. -/
structure Same (s s' : St) : Prop where
  heap : s'.heap = s.heap
  next : s'.next = s.next
theorem Same.refl (s : St) : Same s s := ⟨rfl, rfl⟩
theorem Same.trans {a b c : St} (h : Same a b) (h' : Same b c) : Same a c := ⟨h'.heap.trans h.heap, h'.next.trans h.next⟩
theorem ob_ok {b : Bool} {u : Unit} {s s' : St} (h : (ob b).run s = .ok u s') (ho : OkObs s') : b = true ∧ Same s s' := by
  simp only [ob, obF] at h
  cases b with
  | true =>
    injection h with h1 h2
    subst h2
    exact ⟨rfl, rfl, rfl⟩
  | false =>
    injection h with h1 h2
    subst h2
    simp only [OkObs, List.all_cons, id, Bool.and_eq_true] at ho
    exact absurd ho.1 (by decide)
theorem ask_ok {b a : Bool} {s s' : St} (h : (ask b).run s = .ok a s') (ho : OkObs s') : a = b ∧ Same s s' := by
  simp only [ask, askF] at h
  split at h
  · injection h with h1 h2
    subst h1; subst h2
    exact ⟨rfl, rfl, rfl⟩
  · cases h
  · injection h with h1 h2
    subst h1; subst h2
    simp only [OkObs, List.all_cons, id, Bool.and_eq_true] at ho
    exact ⟨(beq_iff_eq.1 ho.1).symm, rfl, rfl⟩
theorem branch_ok {v : AVal} {a : Bool} {s s' : St} (h : (branch v).run s = .ok a s') (ho : OkObs s') : (v = .bool a ∨ v = .blit a) ∧ Same s s' := by
  unfold branch at h
  split at h
  · obtain ⟨h1, h2⟩ := pure_ok h
    subst h1; subst h2
    exact ⟨.inr rfl, .refl _⟩
  · obtain ⟨h1, h2⟩ := ask_ok h ho
    subst h1
    exact ⟨.inl rfl, h2⟩
  · exact (fail_ok h).elim
theorem get_ok {id : Nat} {b : Blk} {s s' : St} (h : (getB id).run s = .ok b s') : s.heap.get id = some b ∧ Same s s' := by
  simp only [getB, getF] at h
  cases hg : s.heap.get id with
  | none => rw [hg] at h; cases h
  | some b0 =>
    rw [hg] at h
    injection h with h1 h2
    subst h1; subst h2
    exact ⟨rfl, rfl, rfl⟩
theorem setF_ok {id : Nat} {b : Option Blk} {u : Unit} {s s' : St} (h : setF id b s = .ok u s') :
    s.heap.get id ≠ none ∧ s'.next = s.next ∧ ∀ j, s'.heap.get j = if j = id then b else s.heap.get j := by
  unfold setF at h
  cases hg : s.heap.get id with
  | none => rw [hg] at h; cases h
  | some b0 =>
    rw [hg] at h
    injection h with _ h2
    subst h2
    exact ⟨by simp, rfl, fun j => Tr.get_put s.heap id b j⟩
theorem set_ok {id : Nat} {b : Blk} {u : Unit} {s s' : St} (h : (setB id b).run s = .ok u s') :
    s.heap.get id ≠ none ∧ s'.next = s.next ∧ ∀ j, s'.heap.get j = if j = id then some b else s.heap.get j := setF_ok h
theorem kill_ok {id : Nat} {u : Unit} {s s' : St} (h : (kill id).run s = .ok u s') :
    s.heap.get id ≠ none ∧ s'.next = s.next ∧ ∀ j, s'.heap.get j = if j = id then none else s.heap.get j := setF_ok h
theorem new_ok {id : Nat} {b : Blk} {s s' : St} (h : (newB b).run s = .ok id s') :
    id = s.next ∧ s'.next = s.next + 1 ∧ ∀ j, s'.heap.get j = if j = id then some b else s.heap.get j := by
  simp only [newB, newF] at h
  injection h with h1 h2
  subst h1; subst h2
  exact ⟨rfl, rfl, fun j => Tr.get_put s.heap s.next (some b) j⟩
theorem row_ok {α : Type} {k : Cont → TypeId → M α} {b : Blk} {a : α} {s s' : St} (h : (rowK k b).run s = .ok a s') : ∃ c t, b = .row c t ∧ (k c t).run s = .ok a s' := by
  unfold rowK at h
  split at h
  · exact ⟨_, _, rfl, h⟩
  · exact (fail_ok h).elim
theorem loopK_ok {α : Type} {k : ALoop → M α} {b : Blk} {a : α} {s s' : St} (h : (loopK k b).run s = .ok a s') : ∃ l, b = .loop l ∧ (k l).run s = .ok a s' := by
  unfold loopK at h
  split at h
  · exact ⟨_, rfl, h⟩
  · exact (fail_ok h).elim
theorem getO_ok {α : Type} {why : String} {o : Option α} {a : α} {s s' : St} (h : (getO why o).run s = .ok a s') : o = some a ∧ s' = s := by
  unfold getO at h
  split at h
  · obtain ⟨h1, h2⟩ := pure_ok h
    exact ⟨by rw [h1], h2⟩
  · exact (fail_ok h).elim
theorem int_ok {α : Type} {k : Int → M α} {v : AVal} {a : α} {s s' : St} (h : (intK k v).run s = .ok a s') : ∃ q n, v = .int q n ∧ (k n).run s = .ok a s' := by
  unfold intK at h
  split at h
  · exact ⟨_, _, rfl, h⟩
  · exact (fail_ok h).elim
theorem str_ok {α : Type} {k : List UInt8 → M α} {v : AVal} {a : α} {s s' : St} (h : (strK k v).run s = .ok a s') : ∃ l, v = .str l ∧ (k l).run s = .ok a s' := by
  unfold strK at h
  split at h
  · exact ⟨_, rfl, h⟩
  · exact (fail_ok h).elim
theorem agg_ok {α : Type} {k : List AVal → M α} {v : AVal} {a : α} {s s' : St} (h : (aggK k v).run s = .ok a s') : ∃ l, v = .agg l ∧ (k l).run s = .ok a s' := by
  unfold aggK at h
  split at h
  · exact ⟨_, rfl, h⟩
  · exact (fail_ok h).elim
theorem sameSz_ok {α : Type} {n z : Nat} {k : M α} {a : α} {s s' : St} (h : (sameSz n z k).run s = .ok a s') : n = z ∧ k.run s = .ok a s' := by
  unfold sameSz at h
  split at h
  · rename_i e; exact ⟨Nat.eq_of_beq_eq_true e, h⟩
  · exact (fail_ok h).elim

/-! ### Types -/
theorem ti_ok {t : TypeId} {i : TI} {s s' : St} (h : (ti E t).run s = .ok i s') : TOk E.P t i ∧ s' = s := by
  unfold ti at h
  cases hb : (E.types.find t).t.beq t with
  | true =>
    rw [hb] at h
    obtain ⟨h1, h2⟩ := pure_ok h
    have := (E.types.find t).ok
    rw [Nat.eq_of_beq_eq_true hb] at this
    subst h1
    exact ⟨this, h2⟩
  | false => rw [hb] at h; exact (fail_ok h).elim
theorem und_ok {t : TypeId} {d : TypeDesc} {s s' : St} (h : (und E t).run s = .ok d s') : (∃ i, TOk E.P t i ∧ i.desc = d) ∧ s' = s := by
  obtain ⟨i, s1, h1, h2⟩ := M.bind_ok h
  obtain ⟨hi, rfl⟩ := ti_ok h1
  obtain ⟨rfl, rfl⟩ := pure_ok h2
  exact ⟨⟨i, hi, rfl⟩, rfl⟩
theorem sizeOf_ok {t : TypeId} {n : Nat} {s s' : St} (h : (sizeOf E t).run s = .ok n s') : (∃ i, TOk E.P t i ∧ i.size = n) ∧ s' = s := by
  obtain ⟨i, s1, h1, h2⟩ := M.bind_ok h
  obtain ⟨hi, rfl⟩ := ti_ok h1
  obtain ⟨rfl, rfl⟩ := pure_ok h2
  exact ⟨⟨i, hi, rfl⟩, rfl⟩
theorem zeroOf_ok {t : TypeId} {v : AVal} {s s' : St} (h : (zeroOf E t).run s = .ok v s') : (∃ i, TOk E.P t i ∧ i.zero = v) ∧ s' = s := by
  obtain ⟨i, s1, h1, h2⟩ := M.bind_ok h
  obtain ⟨hi, rfl⟩ := ti_ok h1
  obtain ⟨rfl, rfl⟩ := pure_ok h2
  exact ⟨⟨i, hi, rfl⟩, rfl⟩
section
variable {P : Program} {t : TypeId} {i : TI} {w : World}
theorem TOk.run_und (h : TOk P t i) : (underlying t).run P w = .ok i.desc w := run_underlying h.und w
theorem TOk.run_size (h : TOk P t i) : (Go.sizeOf t).run P w = .ok i.size w := by
  obtain ⟨j, z, hj, hs, _⟩ := h.info
  simp [Go.sizeOf, typeInfo, hj, hs]
theorem TOk.size_info (h : TOk P t i) : (P.info? t).map (·.size) = some i.size := by
  obtain ⟨j, z, hj, hs, _⟩ := h.info
  simp [hj, hs]
theorem TOk.run_info (h : TOk P t i) : ∃ j, (typeInfo t).run P w = .ok j w ∧ j.size = i.size ∧ j.bytes = i.bytes ∧ ∃ z, j.zero = some z ∧ ofValue z = i.zero := by
  obtain ⟨j, z, hj, hs, hb, hz, hv⟩ := h.info
  exact ⟨j, by simp [typeInfo, hj], hs, hb, z, hz, hv⟩
theorem TOk.run_zero (h : TOk P t i) : ∃ z, (zeroValue t).run P w = .ok z w ∧ ofValue z = i.zero := by
  obtain ⟨j, z, hj, hs, hb, hz, hv⟩ := h.info
  exact ⟨z, by simp [zeroValue, typeInfo, hj, hz], hv⟩
theorem TOk.run_isAgg (h : TOk P t i) : (isAgg t).run P w = .ok (aggB i.desc) w := by
  unfold isAgg
  rw [Sem.run_bind, h.run_und, Result.andThen_ok]
  cases i.desc <;> rfl
end

/-! ### Plain values -/
theorem ofArr_eq (c : Array Value) : ofArr c = ofList c.toList := by cases c; rfl
theorem ofList_length : ∀ l, (ofList l).length = l.length
  | [] => rfl
  | v :: l => by simp [ofList, ofList_length l]
theorem ofList_get : ∀ (l : List Value) (i : Nat), (ofList l)[i]? = (l[i]?).map ofValue
  | [], i => by simp [ofList]
  | v :: l, 0 => by simp [ofList]
  | v :: l, i + 1 => by simp [ofList, ofList_get l i]
mutual
theorem ofValue_junk {ρ : Ren} {m : Mem} : ∀ v, R ρ m (ofValue v) v
  | .bool b => .bool b
  | .int k n => .int k n
  | .string s => by
    obtain ⟨⟨l⟩⟩ := s
    exact .str l
  | .pointer none => .nilp
  | .slice none 0 0 => .nils
  | .map none => .nilm
  | .nilFunc => .nilf
  | .nilIface => .nili
  | .agg c => by
    have := ofArr_junk (ρ := ρ) (m := m) c
    exact .agg _ _ this.1 this.2
  | .tuple c => by
    have := ofArr_junk (ρ := ρ) (m := m) c
    exact .tup _ _ this.1 this.2
  | .float _ _ => by simp only [ofValue]; exact .junk _
  | .complex _ _ _ => by simp only [ofValue]; exact .junk _
  | .pointer (some _) => by simp only [ofValue]; exact .junk _
  | .slice (some _) _ _ => by simp only [ofValue]; exact .junk _
  | .slice none (_ + 1) _ => by simp only [ofValue]; exact .junk _
  | .slice none 0 (_ + 1) => by simp only [ofValue]; exact .junk _
  | .map (some _) => by simp only [ofValue]; exact .junk _
  | .chan _ => by simp only [ofValue]; exact .junk _
  | .func _ _ _ => by simp only [ofValue]; exact .junk _
  | .iface _ _ => by simp only [ofValue]; exact .junk _
theorem ofArr_junk {ρ : Ren} {m : Mem} : ∀ c, (ofArr c).length = c.size ∧ ∀ (i : Nat) v x, (ofArr c)[i]? = some v → c[i]? = some x → R ρ m v x
  | ⟨l⟩ => by
    have := ofList_junk (ρ := ρ) (m := m) l
    refine ⟨by simp [ofArr, ofList_length], fun i v x hv hx => ?_⟩
    simp only [ofArr, ofList_get] at hv
    simp only [List.getElem?_toArray] at hx
    rw [hx] at hv
    simp only [Option.map_some, Option.some.injEq] at hv
    subst hv
    exact this i x hx
theorem ofList_junk {ρ : Ren} {m : Mem} : ∀ l : List Value, ∀ (i : Nat) x, l[i]? = some x → R ρ m (ofValue x) x
  | [], i, x, hx => by simp at hx
  | v :: l, 0, x, hx => by
    simp at hx
    subst hx
    exact ofValue_junk v
  | v :: l, i + 1, x, hx => by
    simp at hx
    exact ofList_junk l i x hx
end

/-! ### Cells -/
theorem R.cells {ρ : Ren} {m : Mem} {v : AVal} {x : Value} (h : R ρ m v x) (hj : v ≠ .junk) : RL ρ m v.cells x.cells := by
  cases h with
  | agg l c hl hr => exact ⟨hl, hr⟩
  | junk => exact absurd rfl hj
  | _ =>
    refine ⟨rfl, fun i a b ha hb => ?_⟩
    cases i with
    | zero => simp [AVal.cells, Value.cells] at ha hb; subst ha; subst hb; constructor <;> assumption
    | succ i => simp [AVal.cells] at ha
theorem cellsOf_length (g : Nat → AVal) : ∀ (n off : Nat), (cellsOf g off n).length = n
  | 0, _ => rfl
  | n + 1, off => by simp [cellsOf, cellsOf_length g n]
theorem cellsOf_get (g : Nat → AVal) : ∀ (n off i : Nat), i < n → (cellsOf g off n)[i]? = some (g (off + i))
  | 0, _, _, h => absurd h (Nat.not_lt_zero _)
  | n + 1, off, 0, _ => by simp [cellsOf]
  | n + 1, off, i + 1, h => by
    simp only [cellsOf, List.getElem?_cons_succ]
    rw [cellsOf_get g n (off + 1) i (by omega)]
    congr 2; omega
theorem nth_get : ∀ (l : List AVal) (i : Nat) (d : AVal), nth l i d = (l[i]?).getD d
  | [], i, d => by simp [nth]
  | a :: l, 0, d => by simp [nth]
  | a :: l, i + 1, d => by simp [nth, nth_get l i d]
theorem put_length : ∀ (l : List AVal) (i : Nat) (v : AVal), (put l i v).length = l.length
  | [], _, _ => rfl
  | _ :: _, 0, _ => rfl
  | a :: l, i + 1, v => by simp [put, put_length l i v]
theorem put_get : ∀ (l : List AVal) (i : Nat) (v : AVal) (j : Nat), (put l i v)[j]? = if j = i ∧ i < l.length then some v else l[j]?
  | [], i, v, j => by simp [put]
  | a :: l, 0, v, j => by
    cases j with
    | zero => simp [put]
    | succ j => simp [put]
  | a :: l, i + 1, v, j => by
    cases j with
    | zero => simp [put]
    | succ j => simp [put, put_get l i v j]
theorem Cont.sub_length {c : Cont} {off n : Nat} (h : off + n ≤ c.size) : (c.sub off n).length = n := by
  cases c with
  | l xs => simp only [Cont.size] at h; simp [Cont.sub]; omega
  | f k g => simp [Cont.sub, cellsOf_length]
theorem Cont.sub_get {c : Cont} {off n i : Nat} (h : off + n ≤ c.size) (hi : i < n) : (c.sub off n)[i]? = some (c.at (off + i)) := by
  cases c with
  | l xs =>
    simp only [Cont.size] at h
    simp only [Cont.sub, Cont.at, nth_get]
    rw [List.getElem?_take_of_lt hi, List.getElem?_drop]
    have : off + i < xs.length := by omega
    simp [List.getElem?_eq_getElem this]
  | f k g => simp only [Cont.sub, Cont.at]; exact cellsOf_get g n off i hi

theorem add_plain (b o n : Nat) : (⟨b, o, none⟩ : Addr).add n = ⟨b, o + n, none⟩ := by unfold Addr.add; split <;> simp_all

/-- A row that is there, as the world has it. -/
theorem Rel.row {P : Program} {ρ : Ren} {m : Mem} {h : Nat → Option Blk} {w : World} (hr : Rel P ρ m h w) {id : Nat} {c : Cont} {t : TypeId} (hg : h id = some (.row c t)) {r : RB} (hρ : ρ id = some r) :
    ∃ arr fr, w.heap[r.b]? = some (.cells arr t fr) ∧ (P.info? t).map (·.size) = some r.s ∧ arr.size = r.n ∧ c.size ≤ arr.size ∧ (∀ j x, j < c.size → arr[j]? = some x → R ρ m (c.at j) x) ∧ FrOk P t fr arr.size ∧ m r.b = none := by
  obtain ⟨rb, o, h1, h2, h3, h4⟩ := hr.live id _ hg
  rw [hρ] at h1
  injection h1 with h1
  subst h1
  cases h3 with
  | row c elem arr fr hs hn hc hrr hf => exact ⟨arr, fr, h2, hs, hn, hc, hrr, hf, h4⟩
theorem Mem.cell_world {P : Program} {ρ : Ren} {m : Mem} {h : Nat → Option Blk} {w : World} (hr : Rel P ρ m h w) {b o : Nat} {v : Value} (hc : m.cell b o = some v) : w.cell? ⟨b, o, none⟩ = some v := by
  unfold Mem.cell at hc
  cases hb : m b with
  | none => rw [hb] at hc; cases hc
  | some ob =>
    rw [hb] at hc
    cases ob with
    | cells c t f =>
      have := hr.mem b _ hb
      simp only at hc
      simp [World.cell?, this, hc]
    | _ => cases hc

/-- Reading cells. -/
theorem readCells_sim {P : Program} {v : AVal} {n : Nat} {cs : List AVal} {s s' : St} (h : (readCells v n).run s = .ok cs s') (ho : OkObs s') {ρ : Ren} {m : Mem} {w : World}
    (hr : Rel P ρ m s.heap.get w) {x : Value} (hx : R ρ m v x) :
    ∃ (a : Addr) (xs : List Value), x = .pointer (some a) ∧ (∀ j y, xs[j]? = some y → w.cell? (a.add j) = some y) ∧ xs.length = n ∧ RL ρ m cs xs.toArray ∧ cs.length = n ∧ Same s s' := by
  unfold readCells at h
  split at h
  · rename_i id off
    obtain ⟨b, s1, h1, h2, ho1, _, _⟩ := M.bind_did h ho
    obtain ⟨hg, e1⟩ := get_ok h1
    obtain ⟨c, t, rfl, h3⟩ := row_ok h2
    obtain ⟨u, s2, h4, h5, ho2, _, _⟩ := M.bind_did h3 ho
    obtain ⟨hb, e2⟩ := ob_ok h4 ho2
    obtain ⟨rfl, rfl⟩ := pure_ok h5
    cases hx with
    | ptr id off r hρ =>
      obtain ⟨arr, fr, ha, hs, hn, hc, hrr, hf, hm⟩ := hr.row hg hρ
      have hle : off + n ≤ c.size := by simpa using hb
      refine ⟨_, (arr.toList.drop off).take n, rfl, ?_, by simp; omega, ⟨?_, ?_⟩, Cont.sub_length hle, e1.trans e2⟩
      · intro j y hy
        rw [add_plain]
        have hj : j < n := by
          have := (List.getElem?_eq_some_iff.1 hy).1
          simp at this; omega
        rw [List.getElem?_take_of_lt hj, List.getElem?_drop] at hy
        simp only [World.cell?, ha]
        simpa using hy
      · simp [Cont.sub_length hle]; omega
      · intro i a y ha' hy
        have hi : i < n := by
          have := (List.getElem?_eq_some_iff.1 ha').1
          rw [Cont.sub_length hle] at this; exact this
        rw [Cont.sub_get hle hi] at ha'
        injection ha' with ha'
        subst ha'
        simp only [List.getElem?_toArray] at hy
        rw [List.getElem?_take_of_lt hi, List.getElem?_drop] at hy
        exact hrr _ y (by omega) (by simpa using hy)
  · rename_i f k off
    obtain ⟨u, s2, h4, h5, ho2, _, _⟩ := M.bind_did h ho
    obtain ⟨hb, e2⟩ := ob_ok h4 ho2
    obtain ⟨rfl, rfl⟩ := pure_ok h5
    cases hx with
    | ip f k off b o g hg hrr =>
      have hle : off + n ≤ k := by simpa using hb
      refine ⟨_, (List.range n).map fun j => g (off + j), rfl, ?_, by simp, ⟨by simp [cellsOf_length], ?_⟩, cellsOf_length _ _ _, e2⟩
      · intro j y hy
        rw [add_plain]
        simp only [List.getElem?_map] at hy
        have hj : j < n := by
          cases hj : (List.range n)[j]? with
          | none => rw [hj] at hy; cases hy
          | some q => have := (List.getElem?_eq_some_iff.1 hj).1; simpa using this
        rw [List.getElem?_range hj] at hy
        simp at hy
        subst hy
        have := Mem.cell_world hr (hg (off + j) (by omega))
        rw [← Nat.add_assoc] at this
        exact this
      · intro i a y ha' hy
        have hi : i < n := by
          have := (List.getElem?_eq_some_iff.1 ha').1
          rw [cellsOf_length] at this; exact this
        rw [cellsOf_get _ _ _ _ hi] at ha'
        injection ha' with ha'
        subst ha'
        simp only [List.getElem?_toArray, List.getElem?_map, List.getElem?_range hi, Option.map_some, Option.some.injEq] at hy
        subst hy
        exact hrr _ (by omega)
  · exact (fail_ok h).elim
end Go.Am
