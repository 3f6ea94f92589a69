/- Arguments of any shape. -/
import Derived.Test.YtmoplhbncjicbaaAoJ
import Derived.OpenShut
set_option linter.unusedSimpArgs false
set_option linter.unusedVariables false
set_option linter.defProp false
namespace Go.Am
open Go
def otherB : TypeDesc → Bool
  | .bool | .int _ | .string | .slice _ | .struct _ | .array _ _ => false
  | _ => true
def cut (f : Nat → AVal) (o n : Nat) : List AVal := (List.range n).map fun j => f (o + j)
/-- Cells that stand for an argument of a type. -/
inductive Arg (P : Program) : TypeId → List AVal → Prop
  | bool (t : TypeId) (b : Bool) (ht : P.underlying t = some .bool) : Arg P t [.bool b]
  | int (t : TypeId) (k : IntKind) (n : Int) (ht : P.underlying t = some (.int k)) (hw : (Lit.int k n).wf = true) : Arg P t [.int k n]
  | str (t : TypeId) (l : List UInt8) (ht : P.underlying t = some .string) (hl : l.length ≤ maxLen) : Arg P t [.str l]
  | nils (t e : TypeId) (ht : P.underlying t = some (.slice e)) : Arg P t [.nils]
  | isl (t e : TypeId) (f : Nat → AVal) (len : Nat) (ht : P.underlying t = some (.slice e)) (hl : len ≤ maxLen) (he : ∀ i, i < len → Arg P e (cut f (i * P.cellsOf e) (P.cellsOf e))) : Arg P t [.isl f (P.cellsOf e) 0 len]
  | zero (t e : TypeId) (ht : P.underlying t = some (.slice e)) (hz : P.cellsOf e = 0) : Arg P t [.junk]
  | struct (t : TypeId) (fs : Array Field) (vs : List AVal) (ht : P.underlying t = some (.struct fs)) (hl : vs.length = P.cellsOf t) (he : ∀ (i : Nat) (fd : Field), fs[i]? = some fd → Arg P fd.type ((vs.drop fd.offset).take (P.cellsOf fd.type))) : Arg P t vs
  | array (t : TypeId) (n : Nat) (e : TypeId) (vs : List AVal) (ht : P.underlying t = some (.array n e)) (hl : vs.length = P.cellsOf t) (he : ∀ i, i < n → Arg P e ((vs.drop (i * P.cellsOf e)).take (P.cellsOf e))) : Arg P t vs
  | other (t : TypeId) (vs : List AVal) (d : TypeDesc) (ht : P.underlying t = some d) (hd : otherB d = true) : Arg P t vs
variable {ρ : Ren} {m : Mem}
theorem RV.app {a b : List AVal} {x y : List Value} (h : RV ρ m a x) (h' : RV ρ m b y) : RV ρ m (a ++ b) (x ++ y) := by
  induction h with
  | nil => exact h'
  | cons h t ih => exact .cons h ih
theorem RV.get {a : List AVal} {x : List Value} (h : RV ρ m a x) : ∀ (j : Nat) (v : AVal) (z : Value), a[j]? = some v → x[j]? = some z → R ρ m v z := by
  induction h with
  | nil => intro j v z h; simp at h
  | cons h t ih =>
    intro j v z hv hz
    cases j with
    | zero => simp at hv hz; subst hv; subst hz; exact h
    | succ j => exact ih j v z (by simpa using hv) (by simpa using hz)
theorem rv_junk (x : List Value) : RV ρ m (x.map fun _ => .junk) x := by
  induction x with
  | nil => exact .nil
  | cons a x ih => exact .cons (.junk a) ih
theorem sum_get {l : List Nat} : ∀ {i : Nat} (h : i < l.length), (l.take (i + 1)).sum = (l.take i).sum + l[i] := by
  induction l with
  | nil => intro i h; cases h
  | cons a l ih =>
    intro i h
    cases i with
    | zero => simp
    | succ i => simp only [List.take_succ_cons, List.sum_cons, List.getElem_cons_succ, ih (by simpa using h)]; omega
/-- Parts, one behind the other. -/
theorem join_parts : ∀ (L : List (Nat × (List AVal → Prop))) (cs : List Value), cs.length = (L.map (·.1)).sum →
    (∀ (i : Nat) (q : Nat × (List AVal → Prop)), L[i]? = some q → ∃ vs, RV ρ m vs ((cs.drop ((L.take i).map (·.1)).sum).take q.1) ∧ q.2 vs) →
    ∃ vs, RV ρ m vs cs ∧ ∀ (i : Nat) (q : Nat × (List AVal → Prop)), L[i]? = some q → q.2 ((vs.drop ((L.take i).map (·.1)).sum).take q.1) := by
  intro L
  induction L with
  | nil =>
    intro cs hl _
    have : cs = [] := by simpa using hl
    subst this
    exact ⟨[], .nil, fun i q h => by simp at h⟩
  | cons p L ih =>
    intro cs hl h
    simp only [List.map_cons, List.sum_cons] at hl
    obtain ⟨v1, r1, p1⟩ := h 0 p rfl
    simp only [List.take_zero, List.map_nil, List.sum_nil, List.drop_zero] at r1
    obtain ⟨v2, r2, p2⟩ := ih (cs.drop p.1) (by rw [List.length_drop]; omega) (fun i q hq => by
      obtain ⟨vs, a, b⟩ := h (i + 1) q (by simpa using hq)
      refine ⟨vs, ?_, b⟩
      rw [List.drop_drop]
      simpa [List.take_succ_cons] using a)
    have l1 : v1.length = p.1 := by rw [r1.length, List.length_take]; omega
    refine ⟨v1 ++ v2, by have := r1.app r2; rwa [List.take_append_drop] at this, fun i q hq => ?_⟩
    cases i with
    | zero =>
      injection hq with hq
      subst hq
      simp only [List.take_zero, List.map_nil, List.sum_nil, List.drop_zero]
      rw [← l1, List.take_left]; exact p1
    | succ i =>
      have := p2 i q (by simpa using hq)
      simp only [List.take_succ_cons, List.map_cons, List.sum_cons]
      rw [← List.drop_drop, ← l1, List.drop_left]; exact this
theorem sum_rep (n k : Nat) : (List.replicate n k).sum = n * k := by
  induction n with
  | zero => simp
  | succ n ih => rw [List.replicate_succ, List.sum_cons, ih, Nat.succ_mul]; omega
theorem add_plain' (b off i : Nat) : (Addr.add ⟨b, off, none⟩ i) = ⟨b, off + i, none⟩ := by
  unfold Addr.add
  split
  · rename_i h; subst h; rfl
  · rfl
theorem oldMem_cell {w : World} {b off : Nat} {v : Value} (h : w.cell? ⟨b, off, none⟩ = some v) : (oldMem w).cell b off = some v := by
  unfold Mem.cell oldMem
  simp only [World.cell?] at h
  revert h
  cases w.heap[b]? with
  | none => intro h; cases h
  | some o => cases o <;> simp
section
variable {H : Type} {enc : TypeId × Value → H} {P : Program} {w : World} {spare : Nat → Bool} {held : Bool}
theorem arg_of_trod (hlaid : laidOutB P = true) : ∀ (fuel : Nat) (t : TypeId) (cs : List Value) (x : DataW H × List MemPlace), isVar P t = true → DataW.trod enc P w 0 spare held fuel t cs = some x →
    ∃ vs, RV (fun _ => none) (oldMem w) vs cs ∧ Arg P t vs := by
  intro fuel
  induction fuel with
  | zero => intro t cs x _ h; simp [DataW.trod] at h
  | succ n ih =>
    intro t cs x hv h
    have hfine : rowFine P t = true := by
      have h1 : (List.range P.types.size).all (rowFine P) = true := by
        unfold laidOutB at hlaid
        simp only [Bool.and_eq_true] at hlaid
        exact hlaid.1.1
      rw [List.all_eq_true] at h1
      refine h1 t ?_
      unfold isVar at hv
      simp only [Bool.and_eq_true, decide_eq_true_eq] at hv
      exact List.mem_range.2 hv.1
    unfold rowFine at hfine
    rw [hv] at hfine
    cases hd : P.underlying t with
    | none => unfold isVar at hv; rw [hd] at hv; simp [kindOk] at hv
    | some d =>
      rw [hd] at hfine
      cases d
      case bool =>
        obtain ⟨b, rfl, _⟩ := DataW.trod_bool hd h
        exact ⟨_, .cons (.bool b) .nil, .bool t b hd⟩
      case int k =>
        obtain ⟨z, rfl, _, hw⟩ := DataW.trod_int hd h
        exact ⟨_, .cons (.int k z) .nil, .int t k z hd hw⟩
      case string =>
        obtain ⟨s, rfl, _, hs⟩ := DataW.trod_string hd h
        exact ⟨[.str s.data.toList], .cons (.str s.data.toList) .nil, .str t _ hd (by simpa using hs)⟩
      case struct fs =>
        obtain ⟨xs, n', e1, _, hl, hxl, he⟩ := DataW.trod_struct hd h
        injection e1 with e1
        subst e1
        simp only [Bool.not_true, Bool.false_or, Bool.and_eq_true, beq_iff_eq] at hfine
        obtain ⟨⟨f1, f2⟩, f3⟩ := hfine
        rw [List.all_eq_true] at f1 f3
        have off : ∀ (i : Nat) (fd : Field), fs.toList[i]? = some fd → fd.offset = ((fs.toList.take i).map fun f => P.cellsOf f.type).sum := fun i fd hi => by
          have := f3 i (List.mem_range.2 (List.getElem?_eq_some_iff.1 hi).1)
          rw [hi] at this
          exact beq_iff_eq.1 this
        obtain ⟨vs, r, hp⟩ := join_parts (ρ := fun _ => none) (m := oldMem w) (fs.toList.map fun f => (P.cellsOf f.type, Arg P f.type)) cs (by rw [hl, f2, List.map_map]; rfl) (fun i q hq => by
          rw [List.getElem?_map, Option.map_eq_some_iff] at hq
          obtain ⟨fd, hfd, rfl⟩ := hq
          have hxi : i < xs.length := by rw [hxl]; simpa using (List.getElem?_eq_some_iff.1 hfd).1
          have h1 := he i fd (by simpa using hfd)
          rw [List.getElem?_eq_getElem hxi] at h1
          obtain ⟨vs, a, b⟩ := ih fd.type _ _ (f1 fd (List.mem_of_getElem? hfd)) h1
          refine ⟨vs, ?_, b⟩
          rw [List.map_take, List.map_map, ← List.map_take]
          rw [off i fd hfd] at a
          exact a)
        refine ⟨vs, r, .struct t fs vs hd (by rw [r.length, hl]) fun i fd hi => ?_⟩
        have hi' : fs.toList[i]? = some fd := by simpa using hi
        have := hp i (P.cellsOf fd.type, Arg P fd.type) (by rw [List.getElem?_map, hi']; rfl)
        rw [List.map_take, List.map_map, ← List.map_take] at this
        rw [off i fd hi']
        exact this
      case array k e =>
        obtain ⟨xs, n', e1, _, hl, hxl, he⟩ := DataW.trod_array hd h
        injection e1 with e1
        subst e1
        simp only [Bool.not_true, Bool.false_or, Bool.and_eq_true, beq_iff_eq] at hfine
        obtain ⟨f1, f2⟩ := hfine
        have hsum : ∀ i, i ≤ k → (((List.replicate k (P.cellsOf e, Arg P e)).take i).map (·.1)).sum = i * P.cellsOf e := fun i hi => by
          rw [List.take_replicate, List.map_replicate, sum_rep, Nat.min_eq_left hi]
        obtain ⟨vs, r, hp⟩ := join_parts (ρ := fun _ => none) (m := oldMem w) (List.replicate k (P.cellsOf e, Arg P e)) cs (by rw [hl, f2, List.map_replicate, sum_rep]) (fun i q hq => by
          rw [List.getElem?_replicate] at hq
          split at hq
          · rename_i hik
            injection hq with hq
            subst hq
            have h1 := he i hik
            rw [List.getElem?_eq_getElem (by omega)] at h1
            obtain ⟨vs, a, b⟩ := ih e _ _ f1 h1
            refine ⟨vs, ?_, b⟩
            rw [hsum i (by omega)]
            exact a
          · cases hq)
        refine ⟨vs, r, .array t k e vs hd (by rw [r.length, hl]) fun i hi => ?_⟩
        have := hp i (P.cellsOf e, Arg P e) (by rw [List.getElem?_replicate, if_pos hi])
        rwa [hsum i (by omega)] at this
      case slice e =>
        simp only [Bool.not_true, Bool.false_or, Bool.and_eq_true, beq_iff_eq] at hfine
        rcases DataW.trod_slice hd h with ⟨rfl, _⟩ | ⟨a, len, cap, elems, rest, n', e1, rfl, _, hb, hl, hm, hlen, hel, _, _⟩
        · exact ⟨_, .cons .nils .nil, .nils t e hd⟩
        injection e1 with e1
        subst e1
        by_cases hz : P.cellsOf e = 0
        · exact ⟨_, .cons (.junk _) .nil, .zero t e hd hz⟩
        have each : ∀ i, ∃ vs, i < len → vs.length = P.cellsOf e ∧ Arg P e vs ∧ ∃ cs', w.cells? 0 (a.add (i * P.cellsOf e)) (P.cellsOf e) = some cs' ∧ RV (fun _ => none) (oldMem w) vs cs' := fun i => by
          by_cases hi : i < len
          · have h1 := hel i hi
            rw [List.getElem?_eq_getElem (by omega), Option.bind_eq_some_iff] at h1
            obtain ⟨cs', c1, c2⟩ := h1
            obtain ⟨vs, r, g⟩ := ih e cs' _ hfine.1 c2
            exact ⟨vs, fun _ => ⟨by rw [r.length, (World.cells?_some c1).2.1], g, cs', c1, r⟩⟩
          · exact ⟨[], fun q => absurd q hi⟩
        obtain ⟨vs, hvs⟩ := Classical.axiomOfChoice each
        have hcut : ∀ i, i < len → cut (fun j => (vs (j / P.cellsOf e)).getD (j % P.cellsOf e) .junk) (i * P.cellsOf e) (P.cellsOf e) = vs i := fun i hi => by
          obtain ⟨l1, _⟩ := hvs i hi
          refine List.ext_getElem (by simp [cut, l1]) fun j h1 h2 => ?_
          simp only [cut, List.getElem_map, List.getElem_range]
          have hj : j < P.cellsOf e := by omega
          rw [show (i * P.cellsOf e + j) / P.cellsOf e = i by rw [Nat.mul_comm, Nat.mul_add_div (by omega), Nat.div_eq_of_lt hj, Nat.add_zero], show (i * P.cellsOf e + j) % P.cellsOf e = j by rw [Nat.mul_comm, Nat.mul_add_mod, Nat.mod_eq_of_lt hj], List.getD_eq_getElem?_getD, List.getElem?_eq_getElem h2, Option.getD_some]
        refine ⟨[.isl (fun j => (vs (j / P.cellsOf e)).getD (j % P.cellsOf e) .junk) (P.cellsOf e) 0 len], .cons ?_ .nil, .isl t e _ len hd (by omega) fun i hi => by rw [hcut i hi]; exact (hvs i hi).2.1⟩
        by_cases h0 : len = 0
        · subst h0
          exact .isl0 _ _ _ _ a
        have hspot : a.spot = none := by
          obtain ⟨_, _, cs', c1, _⟩ := hvs 0 (by omega)
          obtain ⟨_, c2, c3⟩ := World.cells?_some c1
          have c4 := c3 0 (by omega)
          rw [List.getElem?_eq_getElem (by omega), Nat.zero_mul] at c4
          have e0 : (a.add 0).add 0 = a := by unfold Addr.add; rfl
          rw [e0] at c4
          exact World.cell?_spot c4
        obtain ⟨b, off, spot⟩ := a
        simp only at hspot
        subst hspot
        have hdm : ∀ j, j < 0 + len * P.cellsOf e → j / P.cellsOf e < len ∧ j % P.cellsOf e < P.cellsOf e ∧ j = j / P.cellsOf e * P.cellsOf e + j % P.cellsOf e := fun j hj => by
          refine ⟨Nat.div_lt_of_lt_mul (by rw [Nat.mul_comm]; omega), Nat.mod_lt _ (by omega), ?_⟩
          have := Nat.div_add_mod j (P.cellsOf e)
          rw [Nat.mul_comm] at this
          exact this.symm
        refine .isl _ _ 0 len b off cap (fun j => ((w.cells? 0 (Addr.add ⟨b, off, none⟩ (j / P.cellsOf e * P.cellsOf e)) (P.cellsOf e)).getD []).getD (j % P.cellsOf e) (.bool false)) (fun j hj => ?_) (fun j hj => ?_) hl
        · obtain ⟨d1, d2, d3⟩ := hdm j hj
          obtain ⟨_, _, cs', c1, _⟩ := hvs _ d1
          rw [c1]
          obtain ⟨_, c2, c3⟩ := World.cells?_some c1
          have c4 := c3 _ d2
          rw [add_plain', add_plain', List.getElem?_eq_getElem (by omega)] at c4
          refine oldMem_cell (b := b) (off := off + j) ?_
          rw [show off + j = off + j / P.cellsOf e * P.cellsOf e + j % P.cellsOf e by omega, c4]
          rw [Option.getD_some, List.getD_eq_getElem?_getD, List.getElem?_eq_getElem (by omega), Option.getD_some]
        · obtain ⟨d1, d2, d3⟩ := hdm j hj
          obtain ⟨l1, _, cs', c1, r⟩ := hvs _ d1
          rw [c1, Option.getD_some]
          obtain ⟨_, c2, _⟩ := World.cells?_some c1
          rw [List.getD_eq_getElem?_getD, List.getElem?_eq_getElem (by omega), Option.getD_some]
          refine r.get (j % P.cellsOf e) _ _ (List.getElem?_eq_getElem (by omega)) ?_
          rw [List.getD_eq_getElem?_getD, List.getElem?_eq_getElem (by omega), Option.getD_some]
      all_goals exact ⟨_, rv_junk cs, .other t _ _ hd rfl⟩
end
theorem Arg.slice_inv {P : Program} {t e : TypeId} {vs : List AVal} (ht : P.underlying t = some (.slice e)) (hz : 0 < P.cellsOf e) (ha : Arg P t vs) :
    vs = [.nils] ∨ ∃ f len, vs = [.isl f (P.cellsOf e) 0 len] ∧ len ≤ maxLen ∧ ∀ i, i < len → Arg P e (cut f (i * P.cellsOf e) (P.cellsOf e)) := by
  cases ha with
  | nils t e' h => exact .inl rfl
  | isl t e' f len h hl hx => rw [ht] at h; injection h with h; injection h with h; subst h; exact .inr ⟨f, len, rfl, hl, hx⟩
  | zero t e' h hz => rw [ht] at h; injection h with h; injection h with h; subst h; omega
  | bool t b h2 => rw [ht] at h2; cases h2
  | int t b k h2 _ => rw [ht] at h2; cases h2
  | str t b h2 _ => rw [ht] at h2; cases h2
  | struct t e f h2 => rw [ht] at h2; cases h2
  | array t e f g h2 => rw [ht] at h2; cases h2
  | other t e d h2 h3 => rw [ht] at h2; injection h2 with h2; subst h2; cases h3
theorem Arg.int_inv {P : Program} {t : TypeId} {k : IntKind} {vs : List AVal} (ht : P.underlying t = some (.int k)) (ha : Arg P t vs) : ∃ z, vs = [.int k z] ∧ (Lit.int k z).wf = true := by
  cases ha with
  | int t k z h2 hw => rw [ht] at h2; injection h2 with h2; injection h2 with h2; subst h2; exact ⟨z, rfl, hw⟩
  | bool t b h2 => rw [ht] at h2; cases h2
  | str t b h2 _ => rw [ht] at h2; cases h2
  | nils t e h2 => rw [ht] at h2; cases h2
  | isl t e f len h2 => rw [ht] at h2; cases h2
  | zero t e h2 => rw [ht] at h2; cases h2
  | struct t e f h2 => rw [ht] at h2; cases h2
  | array t e f g h2 => rw [ht] at h2; cases h2
  | other t e d h2 h3 => rw [ht] at h2; injection h2 with h2; subst h2; cases h3
theorem Arg.bool_inv {P : Program} {t : TypeId} {vs : List AVal} (ht : P.underlying t = some .bool) (ha : Arg P t vs) : ∃ z, vs = [.bool z] := by
  cases ha with
  | int t k z h2 hw => rw [ht] at h2; cases h2
  | bool t b h2 => exact ⟨b, rfl⟩
  | str t b h2 _ => rw [ht] at h2; cases h2
  | nils t e h2 => rw [ht] at h2; cases h2
  | isl t e f len h2 => rw [ht] at h2; cases h2
  | zero t e h2 => rw [ht] at h2; cases h2
  | struct t e f h2 => rw [ht] at h2; cases h2
  | array t e f g h2 => rw [ht] at h2; cases h2
  | other t e d h2 h3 => rw [ht] at h2; injection h2 with h2; subst h2; cases h3
theorem Arg.str_inv {P : Program} {t : TypeId} {vs : List AVal} (ht : P.underlying t = some .string) (ha : Arg P t vs) : ∃ l, vs = [.str l] ∧ l.length ≤ maxLen := by
  cases ha with
  | int t k z h2 hw => rw [ht] at h2; cases h2
  | bool t b h2 => rw [ht] at h2; cases h2
  | str t b h2 hl => exact ⟨b, rfl, hl⟩
  | nils t e h2 => rw [ht] at h2; cases h2
  | isl t e f len h2 => rw [ht] at h2; cases h2
  | zero t e h2 => rw [ht] at h2; cases h2
  | struct t e f h2 => rw [ht] at h2; cases h2
  | array t e f g h2 => rw [ht] at h2; cases h2
  | other t e d h2 h3 => rw [ht] at h2; injection h2 with h2; subst h2; cases h3
theorem Arg.struct_inv {P : Program} {t : TypeId} {fs : Array Field} {vs : List AVal} (ht : P.underlying t = some (.struct fs)) (ha : Arg P t vs) : vs.length = P.cellsOf t ∧ ∀ (i : Nat) (fd : Field), fs[i]? = some fd → Arg P fd.type ((vs.drop fd.offset).take (P.cellsOf fd.type)) := by
  cases ha with
  | int t k z h2 hw => rw [ht] at h2; cases h2
  | bool t b h2 => rw [ht] at h2; cases h2
  | str t b h2 hl => rw [ht] at h2; cases h2
  | nils t e h2 => rw [ht] at h2; cases h2
  | isl t e f len h2 => rw [ht] at h2; cases h2
  | zero t e h2 => rw [ht] at h2; cases h2
  | struct t fs vs h2 hl he => rw [ht] at h2; injection h2 with h2; injection h2 with h2; subst h2; exact ⟨hl, he⟩
  | array t e f g h2 => rw [ht] at h2; cases h2
  | other t e d h2 h3 => rw [ht] at h2; injection h2 with h2; subst h2; cases h3
theorem Arg.array_inv {P : Program} {t e : TypeId} {n : Nat} {vs : List AVal} (ht : P.underlying t = some (.array n e)) (ha : Arg P t vs) : vs.length = P.cellsOf t ∧ ∀ i, i < n → Arg P e ((vs.drop (i * P.cellsOf e)).take (P.cellsOf e)) := by
  cases ha with
  | int t k z h2 hw => rw [ht] at h2; cases h2
  | bool t b h2 => rw [ht] at h2; cases h2
  | str t b h2 hl => rw [ht] at h2; cases h2
  | nils t e h2 => rw [ht] at h2; cases h2
  | isl t e f len h2 => rw [ht] at h2; cases h2
  | zero t e h2 => rw [ht] at h2; cases h2
  | struct t fs vs h2 hl he => rw [ht] at h2; cases h2
  | array t e f g h2 hl he => rw [ht] at h2; injection h2 with h2; injection h2 with h2 h3; subst h2; subst h3; exact ⟨hl, he⟩
  | other t e d h2 h3 => rw [ht] at h2; injection h2 with h2; subst h2; cases h3
theorem cut_one (f : Nat → AVal) (o : Nat) : cut f o 1 = [f o] := by simp [cut]
theorem arg_bytes {P : Program} {t e : TypeId} {v : AVal} (ht : P.underlying t = some (.slice e)) (he : P.underlying e = some (.int .u8)) (hc : P.cellsOf e = 1) (ha : Arg P t [v]) : ∃ l, ArgBytes v l ∧ l.length ≤ maxLen := by
  rcases ha.slice_inv ht (by omega) with h | ⟨f, len, h, hl, hx⟩
  · injection h with h; subst h; exact ⟨[], ⟨fun h => .nils, fun _ => trivial⟩, Nat.zero_le _⟩
  · injection h with h
    subst h
    rw [hc] at hx ⊢
    have each : ∀ i, ∃ b : UInt8, i < len → f i = u8 b := fun i => by
      by_cases hi : i < len
      · have := hx i hi
        rw [Nat.mul_one, cut_one] at this
        obtain ⟨z, e1, hw⟩ := this.int_inv he
        injection e1 with e1
        exact ⟨byteOf z, fun _ => by rw [e1, u8, byteOf_eq hw]⟩
      · exact ⟨0, fun q => absurd q hi⟩
    obtain ⟨b, hb⟩ := Classical.axiomOfChoice each
    refine ⟨(List.range len).map b, ⟨fun h => ?_, fun _ => trivial⟩, by simpa using hl⟩
    have := Bytes.isl (h := h) f 0 ((List.range len).map b) (fun j hj => by
      simp only [List.length_map, List.length_range] at hj
      rw [Nat.zero_add, hb j hj]; simp)
    simpa using this
theorem r_agg {ρ : Ren} {m : Mem} {vs : List AVal} {c : Array Value} (h : RV ρ m vs c.toList) : R ρ m (.agg vs) (.agg c) := by
  refine .agg vs c (by rw [h.length]; simp) fun i v x hv hx => h.get i v x hv (by simpa using hx)
theorem okWide_agg {P : Program} {w : World} {r : Reach} {b : Nat} {t : TypeId} {v : Value} (hd : (match P.underlying t with | some (.struct _) => true | some (.array _ _) => true | _ => false) = true) (h : Value.okWide P w r b t v) : ∃ cs, v = .agg cs := by
  unfold Value.okWide at h
  cases hu : P.underlying t with
  | none => rw [hu] at hd; cases hd
  | some d =>
    rw [hu] at hd h
    cases d <;> first | (obtain ⟨cs, e, _⟩ := h; exact ⟨cs, e⟩) | cases hd
#print axioms arg_of_trod
end Go.Am
