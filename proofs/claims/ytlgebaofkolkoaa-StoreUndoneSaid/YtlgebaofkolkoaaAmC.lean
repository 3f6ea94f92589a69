/- The abstract machine. -/
import Derived.Test.YtlgebaofkolkoaaAmB
import Derived.Laws.Sem
import Derived.Laws.World
import Derived.Laws.Cells
import Derived.Laws.Entries
import Derived.Laws.NewFold
set_option linter.unusedSimpArgs false
set_option linter.unusedVariables false
namespace Go.Am
open Go
variable {E : Env}
theorem aE {α : Type} {a b : α} {s s' : St} (h : (M.pure a).run s = .ok b s') : b = a ∧ s' = s := by
 simp only [M.pure] at h
 injection h with h1 h2
 exact ⟨h1.symm, h2.symm⟩
theorem aG {α : Type} {w : String} {b : α} {s s' : St} (h : (fail w : M α).run s = .ok b s') : False := by
 simp only [fail] at h
 cases h
structure fM (s s' : St) : Prop where
 heap : s'.heap = s.heap
 next : s'.next = s.next
theorem fM.refl (s : St) : fM s s := ⟨rfl, rfl⟩
theorem fM.trans {a b c : St} (h : fM a b) (h' : fM b c) : fM a c := ⟨h'.heap.trans h.heap, h'.next.trans h.next⟩
theorem eF {b : Bool} {u : Unit} {s s' : St} (h : (ob b).run s = .ok u s') (ho : bU s') : b = true ∧ fM s s' := by
 simp only [ob, obF] at h
 cases b with
 | true =>
  injection h with h1 h2
  subst h2
  exact ⟨rfl, rfl, rfl⟩
 | false =>
  injection h with h1 h2
  subst h2
  simp only [bU, List.all_cons, id, Bool.and_eq_true] at ho
  exact absurd ho.1 (by decide)
theorem oO {b a : Bool} {s s' : St} (h : (ask b).run s = .ok a s') (ho : bU s') : a = b ∧ fM s s' := by
 simp only [ask, BY] at h
 split at h
 ·injection h with h1 h2
  subst h1; subst h2
  exact ⟨rfl, rfl, rfl⟩
 ·cases h
 ·injection h with h1 h2
  subst h1; subst h2
  simp only [bU, List.all_cons, id, Bool.and_eq_true] at ho
  exact ⟨(beq_iff_eq.1 ho.1).symm, rfl, rfl⟩
theorem yH {v : a9} {a : Bool} {s s' : St} (h : (branch v).run s = .ok a s') (ho : bU s') : (v = .bool a ∨ v = .blit a) ∧ fM s s' := by
 unfold branch at h
 split at h
 ·obtain ⟨h1, h2⟩ := aE h
  subst h1; subst h2
  exact ⟨.inr rfl, .refl _⟩
 ·obtain ⟨h1, h2⟩ := oO h ho
  subst h1
  exact ⟨.inl rfl, h2⟩
 ·exact (aG h).elim
theorem dX {id : Nat} {b : Blk} {s s' : St} (h : (fI id).run s = .ok b s') : s.heap.get id = some b ∧ fM s s' := by
 simp only [fI, zK] at h
 cases hg : s.heap.get id with
 | none => rw [hg] at h; cases h
 | some b0 =>
  rw [hg] at h
  injection h with h1 h2
  subst h1; subst h2
  exact ⟨rfl, rfl, rfl⟩
theorem E2 {id : Nat} {b : Option Blk} {u : Unit} {s s' : St} (h : tL id b s = .ok u s') :
  s.heap.get id ≠ none ∧ s'.next = s.next ∧ ∀ j, s'.heap.get j = if j = id then b else s.heap.get j := by
 unfold tL at h
 cases hg : s.heap.get id with
 | none => rw [hg] at h; cases h
 | some b0 =>
  rw [hg] at h
  injection h with _ h2
  subst h2
  exact ⟨by simp, rfl, fun j => Tr.mX s.heap id b j⟩
theorem nJ {id : Nat} {b : Blk} {u : Unit} {s s' : St} (h : (jF id b).run s = .ok u s') :
  s.heap.get id ≠ none ∧ s'.next = s.next ∧ ∀ j, s'.heap.get j = if j = id then some b else s.heap.get j := E2 h
theorem EE {id : Nat} {u : Unit} {s s' : St} (h : (kill id).run s = .ok u s') :
  s.heap.get id ≠ none ∧ s'.next = s.next ∧ ∀ j, s'.heap.get j = if j = id then none else s.heap.get j := E2 h
theorem zC {id : Nat} {b : Blk} {s s' : St} (h : (qB b).run s = .ok id s') :
  id = s.next ∧ s'.next = s.next + 1 ∧ ∀ j, s'.heap.get j = if j = id then some b else s.heap.get j := by
 simp only [qB, J0] at h
 injection h with h1 h2
 subst h1; subst h2
 exact ⟨rfl, rfl, fun j => Tr.mX s.heap s.next (some b) j⟩
theorem iN {α : Type} {k : bM → TypeId → M α} {b : Blk} {a : α} {s s' : St} (h : (cO k b).run s = .ok a s') : ∃ c t, b = .row c t ∧ (k c t).run s = .ok a s' := by
 unfold cO at h
 split at h
 ·exact ⟨_, _, rfl, h⟩
 ·exact (aG h).elim
theorem nX {α : Type} {k : lN → M α} {b : Blk} {a : α} {s s' : St} (h : (dM k b).run s = .ok a s') : ∃ l, b = .loop l ∧ (k l).run s = .ok a s' := by
 unfold dM at h
 split at h
 ·exact ⟨_, rfl, h⟩
 ·exact (aG h).elim
theorem iT {α : Type} {why : String} {o : Option α} {a : α} {s s' : St} (h : (aV why o).run s = .ok a s') : o = some a ∧ s' = s := by
 unfold aV at h
 split at h
 ·obtain ⟨h1, h2⟩ := aE h
  exact ⟨by rw [h1], h2⟩
 ·exact (aG h).elim
theorem mV {α : Type} {k : Int → M α} {v : a9} {a : α} {s s' : St} (h : (cP k v).run s = .ok a s') : ∃ q n, v = .int q n ∧ (k n).run s = .ok a s' := by
 unfold cP at h
 split at h
 ·exact ⟨_, _, rfl, h⟩
 ·exact (aG h).elim
theorem kT {α : Type} {k : List UInt8 → M α} {v : a9} {a : α} {s s' : St} (h : (dH k v).run s = .ok a s') : ∃ l, v = .str l ∧ (k l).run s = .ok a s' := by
 unfold dH at h
 split at h
 ·exact ⟨_, rfl, h⟩
 ·exact (aG h).elim
theorem kB {α : Type} {k : List a9 → M α} {v : a9} {a : α} {s s' : St} (h : (dQ k v).run s = .ok a s') : ∃ l, v = .agg l ∧ (k l).run s = .ok a s' := by
 unfold dQ at h
 split at h
 ·exact ⟨_, rfl, h⟩
 ·exact (aG h).elim
theorem dY {α : Type} {n z : Nat} {k : M α} {a : α} {s s' : St} (h : (bN n z k).run s = .ok a s') : n = z ∧ k.run s = .ok a s' := by
 unfold bN at h
 split at h
 ·rename_i e; exact ⟨Nat.eq_of_beq_eq_true e, h⟩
 ·exact (aG h).elim
theorem kR {t : TypeId} {i : TI} {s s' : St} (h : (ti E t).run s = .ok i s') : TOk E.P t i ∧ s' = s := by
 unfold ti at h
 cases hb : (E.types.find t).t.beq t with
 | true =>
  rw [hb] at h
  obtain ⟨h1, h2⟩ := aE h
  have := (E.types.find t).ok
  rw [Nat.eq_of_beq_eq_true hb] at this
  subst h1
  exact ⟨this, h2⟩
 | false => rw [hb] at h; exact (aG h).elim
theorem eM {t : TypeId} {d : TypeDesc} {s s' : St} (h : (und E t).run s = .ok d s') : (∃ i, TOk E.P t i ∧ i.desc = d) ∧ s' = s := by
 obtain ⟨i, s1, h1, h2⟩ := M.aM h
 obtain ⟨hi, rfl⟩ := kR h1
 obtain ⟨rfl, rfl⟩ := aE h2
 exact ⟨⟨i, hi, rfl⟩, rfl⟩
theorem fR {t : TypeId} {n : Nat} {s s' : St} (h : (sizeOf E t).run s = .ok n s') : (∃ i, TOk E.P t i ∧ i.size = n) ∧ s' = s := by
 obtain ⟨i, s1, h1, h2⟩ := M.aM h
 obtain ⟨hi, rfl⟩ := kR h1
 obtain ⟨rfl, rfl⟩ := aE h2
 exact ⟨⟨i, hi, rfl⟩, rfl⟩
theorem sC {t : TypeId} {v : a9} {s s' : St} (h : (zeroOf E t).run s = .ok v s') : (∃ i, TOk E.P t i ∧ i.zero = v) ∧ s' = s := by
 obtain ⟨i, s1, h1, h2⟩ := M.aM h
 obtain ⟨hi, rfl⟩ := kR h1
 obtain ⟨rfl, rfl⟩ := aE h2
 exact ⟨⟨i, hi, rfl⟩, rfl⟩
section
variable {P : Program} {t : TypeId} {i : TI} {w : World}
theorem TOk.dR (h : TOk P t i) : (underlying t).run P w = .ok i.desc w := run_underlying h.und w
theorem TOk.dJ (h : TOk P t i) : (Go.sizeOf t).run P w = .ok i.size w := by
 obtain ⟨j, z, hj, hs, _⟩ := h.info
 simp [Go.sizeOf, typeInfo, hj, hs]
theorem TOk.kK (h : TOk P t i) : (P.info? t).map (·.size) = some i.size := by
 obtain ⟨j, z, hj, hs, _⟩ := h.info
 simp [hj, hs]
theorem TOk.AB (h : TOk P t i) : ∃ j, (typeInfo t).run P w = .ok j w ∧ j.size = i.size ∧ j.bytes = i.bytes ∧ ∃ z, j.zero = some z ∧ ofValue z = i.zero := by
 obtain ⟨j, z, hj, hs, hb, hz, hv⟩ := h.info
 exact ⟨j, by simp [typeInfo, hj], hs, hb, z, hz, hv⟩
theorem TOk.kV (h : TOk P t i) : ∃ z, (zeroValue t).run P w = .ok z w ∧ ofValue z = i.zero := by
 obtain ⟨j, z, hj, hs, hb, hz, hv⟩ := h.info
 exact ⟨z, by simp [zeroValue, typeInfo, hj, hz], hv⟩
theorem TOk.xJ (h : TOk P t i) : (isAgg t).run P w = .ok (eD i.desc) w := by
 unfold isAgg
 rw [Sem.run_bind, h.dR, Result.andThen_ok]
 cases i.desc <;> rfl
end
theorem pO : ∀ l, (ofList l).length = l.length
 | [] => rfl
 | v :: l => by simp [ofList, pO l]
theorem uY : ∀ (l : List Value) (i : Nat), (ofList l)[i]? = (l[i]?).map ofValue
 | [], i => by simp [ofList]
 | v :: l, 0 => by simp [ofList]
 | v :: l, i + 1 => by simp [ofList, uY l i]
mutual
theorem gN {ρ : Ren} {m : Mem} : ∀ v, R ρ m (ofValue v) v
 | .bool b => .bool b
 | .int k n => .int k n
 | .string s => by
  obtain ⟨⟨l⟩⟩ := s
  exact .str l
 | .pointer none => .nilp
 | .slice none 0 0 => .nils
 | .map none => .nilm
 | .nilFunc => .nilf
 | .nilIface => .nili
 | .agg c => by
  have := uZ (ρ := ρ) (m := m) c
  exact .agg _ _ this.1 this.2
 | .tuple c => by
  have := uZ (ρ := ρ) (m := m) c
  exact .tup _ _ this.1 this.2
 | .float _ _ => by simp only [ofValue]; exact .junk _
 | .complex _ _ _ => by simp only [ofValue]; exact .junk _
 | .pointer (some _) => by simp only [ofValue]; exact .junk _
 | .slice (some _) _ _ => by simp only [ofValue]; exact .junk _
 | .slice none (_ + 1) _ => by simp only [ofValue]; exact .junk _
 | .slice none 0 (_ + 1) => by simp only [ofValue]; exact .junk _
 | .map (some _) => by simp only [ofValue]; exact .junk _
 | .chan _ => by simp only [ofValue]; exact .junk _
 | .func _ _ _ => by simp only [ofValue]; exact .junk _
 | .iface _ _ => by simp only [ofValue]; exact .junk _
theorem uZ {ρ : Ren} {m : Mem} : ∀ c, (eE c).length = c.size ∧ ∀ (i : Nat) v x, (eE c)[i]? = some v → c[i]? = some x → R ρ m v x
 | ⟨l⟩ => by
  have := tA (ρ := ρ) (m := m) l
  refine ⟨by simp [eE, pO], fun i v x hv hx => ?_⟩
  simp only [eE, uY] at hv
  simp only [List.getElem?_toArray] at hx
  rw [hx] at hv
  simp only [Option.map_some, Option.some.injEq] at hv
  subst hv
  exact this i x hx
theorem tA {ρ : Ren} {m : Mem} : ∀ l : List Value, ∀ (i : Nat) x, l[i]? = some x → R ρ m (ofValue x) x
 | [], i, x, hx => by simp at hx
 | v :: l, 0, x, hx => by
  simp at hx
  subst hx
  exact gN v
 | v :: l, i + 1, x, hx => by
  simp at hx
  exact tA l i x hx
end
theorem R.cells {ρ : Ren} {m : Mem} {v : a9} {x : Value} (h : R ρ m v x) (hj : v ≠ .junk) : RL ρ m v.cells x.cells := by
 cases h with
 | agg l c hl hr => exact ⟨hl, hr⟩
 | junk => exact absurd rfl hj
 | _ =>
  refine ⟨rfl, fun i a b ha hb => ?_⟩
  cases i with
  | zero => simp [a9.cells, Value.cells] at ha hb; subst ha; subst hb; constructor <;> assumption
  | succ i => simp [a9.cells] at ha
theorem gC (g : Nat → a9) : ∀ (n off : Nat), (cellsOf g off n).length = n
 | 0, _ => rfl
 | n + 1, off => by simp [cellsOf, gC g n]
theorem oJ (g : Nat → a9) : ∀ (n off i : Nat), i < n → (cellsOf g off n)[i]? = some (g (off + i))
 | 0, _, _, h => absurd h (Nat.not_lt_zero _)
 | n + 1, off, 0, _ => by simp [cellsOf]
 | n + 1, off, i + 1, h => by
  simp only [cellsOf, List.getElem?_cons_succ]
  rw [oJ g n (off + 1) i (by omega)]
  congr 2; omega
theorem fU : ∀ (l : List a9) (i : Nat) (d : a9), nth l i d = (l[i]?).getD d
 | [], i, d => by simp [nth]
 | a :: l, 0, d => by simp [nth]
 | a :: l, i + 1, d => by simp [nth, fU l i d]
theorem jG : ∀ (l : List a9) (i : Nat) (v : a9), (put l i v).length = l.length
 | [], _, _ => rfl
 | _ :: _, 0, _ => rfl
 | a :: l, i + 1, v => by simp [put, jG l i v]
theorem u0 : ∀ (l : List a9) (i : Nat) (v : a9) (j : Nat), (put l i v)[j]? = if j = i ∧ i < l.length then some v else l[j]?
 | [], i, v, j => by simp [put]
 | a :: l, 0, v, j => by
  cases j with
  | zero => simp [put]
  | succ j => simp [put]
 | a :: l, i + 1, v, j => by
  cases j with
  | zero => simp [put]
  | succ j => simp [put, u0 l i v j]
theorem bM.gK {c : bM} {off n : Nat} (h : off + n ≤ c.size) : (c.sub off n).length = n := by
 cases c with
 | l xs => simp only [bM.size] at h; simp [bM.sub]; omega
 | f k g => simp [bM.sub, gC]
theorem bM.tW {c : bM} {off n i : Nat} (h : off + n ≤ c.size) (hi : i < n) : (c.sub off n)[i]? = some (c.at (off + i)) := by
 cases c with
 | l xs =>
  simp only [bM.size] at h
  simp only [bM.sub, bM.at, fU]
  rw [List.getElem?_take_of_lt hi, List.getElem?_drop]
  have : off + i < xs.length := by omega
  simp [List.getElem?_eq_getElem this]
 | f k g => simp only [bM.sub, bM.at]; exact oJ g n off i hi
theorem add_plain (b o n : Nat) : (⟨b, o, none⟩ : Addr).add n = ⟨b, o + n, none⟩ := by unfold Addr.add; split <;> simp_all
theorem Rel.row {P : Program} {ρ : Ren} {m : Mem} {h : Nat → Option Blk} {w : World} (hr : Rel P ρ m h w) {id : Nat} {c : bM} {t : TypeId} (hg : h id = some (.row c t)) {r : RB} (hρ : ρ id = some r) :
  ∃ arr fr, w.heap[r.b]? = some (.cells arr t fr) ∧ (P.info? t).map (·.size) = some r.s ∧ arr.size = r.n ∧ c.size ≤ arr.size ∧ (∀ j x, j < c.size → arr[j]? = some x → R ρ m (c.at j) x) ∧ OQ P t fr arr.size ∧ m r.b = none := by
 obtain ⟨rb, o, h1, h2, h3, h4⟩ := hr.live id _ hg
 rw [hρ] at h1
 injection h1 with h1
 subst h1
 cases h3 with
 | row c elem arr fr hs hn hc hrr hf => exact ⟨arr, fr, h2, hs, hn, hc, hrr, hf, h4⟩
theorem Mem.DK {P : Program} {ρ : Ren} {m : Mem} {h : Nat → Option Blk} {w : World} (hr : Rel P ρ m h w) {b o : Nat} {v : Value} (hc : m.cell b o = some v) : w.cell? ⟨b, o, none⟩ = some v := by
 unfold Mem.cell at hc
 cases hb : m b with
 | none => rw [hb] at hc; cases hc
 | some ob =>
  rw [hb] at hc
  cases ob with
  | cells c t f =>
   have := hr.mem b _ hb
   simp only at hc
   simp [World.cell?, this, hc]
  | _ => cases hc
theorem gU {P : Program} {v : a9} {n : Nat} {cs : List a9} {s s' : St} (h : (bF v n).run s = .ok cs s') (ho : bU s') {ρ : Ren} {m : Mem} {w : World}
  (hr : Rel P ρ m s.heap.get w) {x : Value} (hx : R ρ m v x) :
  ∃ (a : Addr) (xs : List Value), x = .pointer (some a) ∧ (∀ j y, xs[j]? = some y → w.cell? (a.add j) = some y) ∧ xs.length = n ∧ RL ρ m cs xs.toArray ∧ cs.length = n ∧ fM s s' := by
 unfold bF at h
 split at h
 ·rename_i id off
  obtain ⟨b, s1, h1, h2, ho1, _, _⟩ := M.aL h ho
  obtain ⟨hg, e1⟩ := dX h1
  obtain ⟨c, t, rfl, h3⟩ := iN h2
  obtain ⟨u, s2, h4, h5, ho2, _, _⟩ := M.aL h3 ho
  obtain ⟨hb, e2⟩ := eF h4 ho2
  obtain ⟨rfl, rfl⟩ := aE h5
  cases hx with
  | ptr id off r hρ =>
   obtain ⟨arr, fr, ha, hs, hn, hc, hrr, hf, hm⟩ := hr.row hg hρ
   have hle : off + n ≤ c.size := by simpa using hb
   refine ⟨_, (arr.toList.drop off).take n, rfl, ?_, by simp; omega, ⟨?_, ?_⟩, bM.gK hle, e1.trans e2⟩
   ·intro j y hy
    rw [add_plain]
    have hj : j < n := by
     have := (List.getElem?_eq_some_iff.1 hy).1
     simp at this; omega
    rw [List.getElem?_take_of_lt hj, List.getElem?_drop] at hy
    simp only [World.cell?, ha]
    simpa using hy
   ·simp [bM.gK hle]; omega
   ·intro i a y ha' hy
    have hi : i < n := by
     have := (List.getElem?_eq_some_iff.1 ha').1
     rw [bM.gK hle] at this; exact this
    rw [bM.tW hle hi] at ha'
    injection ha' with ha'
    subst ha'
    simp only [List.getElem?_toArray] at hy
    rw [List.getElem?_take_of_lt hi, List.getElem?_drop] at hy
    exact hrr _ y (by omega) (by simpa using hy)
 ·rename_i f k off
  obtain ⟨u, s2, h4, h5, ho2, _, _⟩ := M.aL h ho
  obtain ⟨hb, e2⟩ := eF h4 ho2
  obtain ⟨rfl, rfl⟩ := aE h5
  cases hx with
  | ip f k off b o g hg hrr =>
   have hle : off + n ≤ k := by simpa using hb
   refine ⟨_, (List.range n).map fun j => g (off + j), rfl, ?_, by simp, ⟨by simp [gC], ?_⟩, gC _ _ _, e2⟩
   ·intro j y hy
    rw [add_plain]
    simp only [List.getElem?_map] at hy
    have hj : j < n := by
     cases hj : (List.range n)[j]? with
     | none => rw [hj] at hy; cases hy
     | some q => have := (List.getElem?_eq_some_iff.1 hj).1; simpa using this
    rw [List.getElem?_range hj] at hy
    simp at hy
    subst hy
    have := Mem.DK hr (hg (off + j) (by omega))
    rw [← Nat.add_assoc] at this
    exact this
   ·intro i a y ha' hy
    have hi : i < n := by
     have := (List.getElem?_eq_some_iff.1 ha').1
     rw [gC] at this; exact this
    rw [oJ _ _ _ _ hi] at ha'
    injection ha' with ha'
    subst ha'
    simp only [List.getElem?_toArray, List.getElem?_map, List.getElem?_range hi, Option.map_some, Option.some.injEq] at hy
    subst hy
    exact hrr _ (by omega)
 ·exact (aG h).elim
end Go.Am
