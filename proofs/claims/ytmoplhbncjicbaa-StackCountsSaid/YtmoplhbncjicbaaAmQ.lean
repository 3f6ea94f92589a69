/- The abstract machine's operations do what the model's do: composites, places, indexes. -/
import Derived.Test.YtmoplhbncjicbaaAmP
set_option linter.unusedSimpArgs false
set_option linter.unusedVariables false
namespace Go.Am
open Go

variable {E : Env}
section
variable {ρ : Ren} {m : Mem} {s s' : St} {w : World} {v : AVal}

theorem R.agg_inv {l : List AVal} {x : Value} (h : R ρ m (.agg l) x) : ∃ c, x = .agg c ∧ RL ρ m l c := by
  cases h with
  | agg l c hl hr => exact ⟨c, rfl, hl, hr⟩
theorem R.int_inv {k : IntKind} {n : Int} {x : Value} (h : R ρ m (.int k n) x) : x = .int k n := by cases h; rfl
theorem R.str_inv {l : List UInt8} {x : Value} (h : R ρ m (.str l) x) : x = .string ⟨⟨l⟩⟩ := by cases h; rfl
theorem R.bool_inv {b : Bool} {x : Value} (h : R ρ m (.bool b) x) : x = .bool b := by cases h; rfl
theorem R.blit_inv {b : Bool} {x : Value} (h : R ρ m (.blit b) x) : x = .bool b := by cases h; rfl
theorem TOk.zcells {P : Program} {t : TypeId} {i : TI} (hi : TOk P t i) {z : Value} (h : ofValue z = i.zero) : RL ρ m i.zero.cells z.cells :=
  R.cells (by rw [← h]; exact ofValue_junk z) (fun e => by have := hi.zj; rw [e] at this; cases this)

theorem build_sim {t : TypeId} {parts : List (Nat × AVal)} {parts' : List (Nat × Value)} (h : (build E t parts).run s = .ok v s') (ho : OkObs s') (hr : Rel E.P ρ m s.heap.get w) (hp : RP ρ m parts parts') :
    Out E.P ρ m s w s' v ((Instr.build t parts'.toArray).run E.P w) := by
  obtain ⟨i, s1, h1, h2⟩ := M.bind_ok h
  obtain ⟨hi, rfl⟩ := ti_ok h1
  obtain ⟨z, hz, hzi⟩ := hi.run_zero (w := w)
  have hu := hi.run_und (w := w)
  have hzc := hi.zcells (ρ := ρ) (m := m) hzi
  cases hd : i.desc with
  | struct fs =>
    rw [hd] at h2 hu
    obtain ⟨ps, s2, h3, h4⟩ := M.bind_ok h2
    obtain ⟨rfl, h7⟩ := sizesOf_ok _ h3
    obtain ⟨cs, s3, h5, h6⟩ := M.bind_ok h4
    obtain ⟨h5g, rfl⟩ := getO_ok h5
    obtain ⟨rfl, rfl⟩ := pure_ok h6
    obtain ⟨out, k1, k2⟩ := fill_sim parts parts' _ _ cs hp hzc h5g
    have h8 := h7 w
    simp only [Instr.build, Sem.run_bind, hz, hu, Result.andThen_ok, h8, List.getElem?_toArray, k1, Sem.run_pure]
    exact .same hr (.refl _) (.agg _ _ k2.len k2.at_)
  | array n e =>
    rw [hd] at h2 hu
    obtain ⟨n, s2, h3, h4⟩ := M.bind_ok h2
    obtain ⟨⟨j, hj, rfl⟩, rfl⟩ := sizeOf_ok h3
    obtain ⟨cs, s3, h5, h6⟩ := M.bind_ok h4
    obtain ⟨h5g, rfl⟩ := getO_ok h5
    obtain ⟨rfl, rfl⟩ := pure_ok h6
    obtain ⟨out, k1, k2⟩ := fill_sim parts parts' _ _ cs hp hzc h5g
    simp only [Instr.build, Sem.run_bind, hz, hu, Result.andThen_ok, hj.run_size, k1, Sem.run_pure]
    exact .same hr (.refl _) (.agg _ _ k2.len k2.at_)
  | _ => rw [hd] at h2; exact (fail_ok h2).elim

theorem reps_length (z : List AVal) : ∀ n, (reps z n).length = n * z.length
  | 0 => by simp [reps]
  | n + 1 => by simp [reps, reps_length z n, Nat.succ_mul, Nat.add_comm]
theorem reps_get (z : List AVal) : ∀ (n i : Nat), i < n * z.length → (reps z n)[i]? = z[i % z.length]?
  | 0, i, h => by simp at h
  | n + 1, i, h => by
    simp only [reps]
    by_cases hi : i < z.length
    · rw [List.getElem?_append_left hi, Nat.mod_eq_of_lt hi]
    · have hz : z.length ≤ i := by omega
      rw [List.getElem?_append_right hz, reps_get z n (i - z.length) (by rw [Nat.succ_mul] at h; omega), ← Nat.mod_eq_sub_mod hz]
/-- Zero cells, over and over. -/
theorem reps_sim {zs : List AVal} {zx : Array Value} (hz : RL ρ m zs zx) (n : Nat) : RL ρ m (reps zs n) ((Array.range (n * zx.size)).map (zx[· % zx.size]!)) := by
  refine ⟨by simp [reps_length, hz.len], fun i a b ha hb => ?_⟩
  have hi : i < n * zs.length := by
    have := (List.getElem?_eq_some_iff.1 ha).1
    rwa [reps_length] at this
  rw [reps_get _ _ _ hi] at ha
  have hpos : 0 < zs.length := by
    rcases Nat.eq_zero_or_pos zs.length with h0 | h0
    · rw [h0] at hi; omega
    · exact h0
  have hb' : b = zx[i % zx.size]! := by
    have hi' : i < n * zx.size := by rw [← hz.len]; exact hi
    simp only [Array.getElem?_map, Array.getElem?_range, hi', if_true, Option.map_some, Option.some.injEq] at hb
    exact hb.symm
  have hlt : i % zx.size < zx.size := Nat.mod_lt _ (by rw [← hz.len]; exact hpos)
  have e : zx[i % zx.size]? = some b := by
    rw [hb', Array.getElem?_eq_getElem hlt, getElem!_pos zx _ hlt]
  rw [hz.len] at ha
  exact hz.at_ _ a b ha e

theorem newBlock_sim {t : TypeId} {cs : List AVal} {id : Nat} (h : (newRow E t cs).run s = .ok id s') (hr : Rel E.P ρ m s.heap.get w) (hf : Fresh ρ s s') {arr : Array Value} (hc : RL ρ m cs arr) :
    ∃ i, TOk E.P t i ∧ Post E.P ρ m s w (ρ.put id ⟨w.heap.size, arr.size, i.size⟩) m s' (w.alloc (.cells arr t)) := by
  obtain ⟨i, s1, h1, h2⟩ := M.bind_ok h
  obtain ⟨hi, rfl⟩ := ti_ok h1
  obtain ⟨_, hp⟩ := newRow_sim h2 hr hf hi (arr := arr) (by simp [Cont.size, hc.len]) (fun j z hjz hz => by
    simp only [Cont.size] at hjz
    simp only [Cont.at, nth_get, List.getElem?_eq_getElem hjz, Option.getD_some]
    exact hc.at_ j _ z (List.getElem?_eq_getElem hjz) hz)
  exact ⟨i, hi, hp⟩
theorem run_newRow (P : Program) (w : World) (t : TypeId) (arr : Array Value) : (Go.newRow t arr).run P w = .ok ⟨w.heap.size, 0, none⟩ (w.alloc (.cells arr t)) := by
  simp only [Go.newRow, Sem.run_bind, run_newObj_alloc, Result.andThen_ok, Sem.run_pure]

theorem buildSlice_sim {t : TypeId} {len : Nat} {parts : List (Nat × AVal)} {parts' : List (Nat × Value)} (h : (buildSlice E t len parts).run s = .ok v s') (ho : OkObs s') (hr : Rel E.P ρ m s.heap.get w) (hf : Fresh ρ s s')
    (hp : RP ρ m parts parts') : Out E.P ρ m s w s' v ((Instr.buildSlice t len parts'.toArray).run E.P w) := by
  obtain ⟨d, s1, h1, h2⟩ := M.bind_ok h
  obtain ⟨⟨i, hi, rfl⟩, rfl⟩ := und_ok h1
  have hu := hi.run_und (w := w)
  cases hd : i.desc with
  | slice e =>
    rw [hd] at h2 hu
    obtain ⟨j, s2, h3, h4⟩ := M.bind_ok h2
    obtain ⟨hj, rfl⟩ := ti_ok h3
    cases hb : (len * j.size).ble 16777216 with
    | false => rw [hb] at h4; exact (fail_ok h4).elim
    | true =>
      rw [hb] at h4
      have hle := Nat.le_of_ble_eq_true hb
      obtain ⟨cs, s3, h5, h6⟩ := M.bind_ok h4
      obtain ⟨h5g, rfl⟩ := getO_ok h5
      obtain ⟨id, s4, h7, h8⟩ := M.bind_ok h6
      obtain ⟨rfl, rfl⟩ := pure_ok h8
      obtain ⟨z, hz, hzi⟩ := hj.run_zero (w := w)
      have hzc := hj.zcells (ρ := ρ) (m := m) hzi
      have hzs : z.cells.size = j.size := by rw [← hzc.len, hj.zsize]
      have hle' : ¬ (len * j.size > 2 ^ 24) := by omega
      have hreps := reps_sim hzc len
      rw [hzs] at hreps
      obtain ⟨out, k1, k2⟩ := fill_sim parts parts' _ _ cs hp hreps h5g
      obtain ⟨j', hj', hp'⟩ := newBlock_sim h7 hr hf k2
      have ej : j'.size = j.size := by
        have := hj'.size_info
        rw [hj.size_info] at this
        injection this with this
        exact this.symm
      refine ⟨_, _, _, ?_, hp', .slx id 0 len len j.size ⟨w.heap.size, out.size, j'.size⟩ (by simp [Ren.put]) (Nat.le_refl _)⟩
      simp only [Instr.buildSlice, Sem.run_bind, hu, hj.run_size, Result.andThen_ok, hle', if_false]
      by_cases h0 : len * j.size = 0
      · have harr : ((Array.range (len * j.size)).map ((#[] : Array Value)[· % (#[] : Array Value).size]!)) = ((Array.range (len * j.size)).map (z.cells[· % j.size]!)) := by rw [h0]; simp
        rw [if_pos h0]
        simp only [Sem.run_bind, Result.andThen_ok, Sem.run_pure]
        rw [harr]
        simp only [k1, run_newRow, Sem.run_bind, Result.andThen_ok, Sem.run_pure]
      · rw [if_neg h0]
        simp only [Sem.run_bind, Result.andThen_ok, Sem.run_pure, hz, hzs, k1, run_newRow]
  | _ => rw [hd] at h2; exact (fail_ok h2).elim

/-! ### Places -/
theorem moved_sim {n : Nat} {a : AVal} (h : (moved n a).run s = .ok v s') {x : Value} (hx : R ρ m a x) : s' = s ∧ ∃ ad, x = .pointer (some ad) ∧ ad.spot = none ∧ R ρ m v (.pointer (some ⟨ad.block, ad.off + n, none⟩)) := by
  unfold moved at h
  split at h
  · obtain ⟨rfl, rfl⟩ := pure_ok h
    cases hx with
    | ptr id off r hρ => exact ⟨rfl, _, rfl, rfl, .ptr _ _ r hρ⟩
  · rename_i f k off
    obtain ⟨rfl, rfl⟩ := pure_ok h
    cases hx with
    | ip _ _ _ b o g' hg hrr =>
      refine ⟨rfl, _, rfl, rfl, ?_⟩
      have := R.ip (ρ := ρ) (m := m) f k (off + n) b o g' hg hrr
      rw [← Nat.add_assoc] at this
      exact this
  · exact (fail_ok h).elim
theorem add_none {a : Addr} (h : a.spot = none) (n : Nat) : a.add n = ⟨a.block, a.off + n, none⟩ := by
  obtain ⟨b, o, sp⟩ := a
  simp only at h
  subst h
  exact add_plain b o n
theorem fieldAddr_sim {t : TypeId} {a : AVal} {i : Nat} (h : (fieldAddr E t a i).run s = .ok v s') (hr : Rel E.P ρ m s.heap.get w) {x : Value} (hx : R ρ m a x) :
    Out E.P ρ m s w s' v ((Instr.fieldAt t x i).run E.P w) := by
  obtain ⟨d, s1, h1, h2⟩ := M.bind_ok h
  obtain ⟨⟨i0, hi, rfl⟩, rfl⟩ := und_ok h1
  have hu := hi.run_und (w := w)
  cases hd : i0.desc with
  | struct fs =>
    rw [hd] at h2 hu
    obtain ⟨f, s2, h3, h4⟩ := M.bind_ok h2
    obtain ⟨h3g, rfl⟩ := getO_ok h3
    obtain ⟨n, s3, h5, h6⟩ := M.bind_ok h4
    obtain ⟨⟨j, hj, rfl⟩, rfl⟩ := sizeOf_ok h5
    cases hb : j.size.beq 0 with
    | true => rw [hb] at h6; exact (fail_ok h6).elim
    | false =>
      rw [hb] at h6
      have hne : ¬ j.size = 0 := fun e => by rw [e] at hb; cases hb
      obtain ⟨rfl, ad, rfl, hsp, hv⟩ := moved_sim h6 hx
      have hf : fs[i]? = some f := by simpa using h3g
      simp only [Instr.fieldAt, Sem.run_bind, hu, Result.andThen_ok, hf, Instr.sureAddr, Sem.run_pure, fieldPlace, hj.run_size, hne, if_false, add_none hsp]
      exact .same hr (.refl _) hv
  | _ => rw [hd] at h2; exact (fail_ok h2).elim
theorem idx_ok {i : Int} {len j : Nat} (h : (idx i len).run s = .ok j s') (ho : OkObs s') : (0 ≤ i ∧ i < (len : Int)) ∧ j = i.toNat ∧ Same s s' := by
  obtain ⟨_, s1, h1, h2, ho1, _, _⟩ := M.bind_did h ho
  obtain ⟨rfl, rfl⟩ := pure_ok h2
  obtain ⟨h3, h4⟩ := ob_ok h1 ho1
  exact ⟨of_decide_eq_true h3, rfl, h4⟩
theorem slK_ok {α : Type} {k : Nat → Nat → Nat → Option Nat → Nat → M α} {k2 : (Nat → AVal) → Nat → Nat → Nat → M α} {v : AVal} {a : α} (h : (slK k k2 v).run s = .ok a s') :
    (∃ id off len cap sz, v = .sl id off len cap sz ∧ (k id off len cap sz).run s = .ok a s') ∨ (∃ g sz off len, v = .isl g sz off len ∧ (k2 g sz off len).run s = .ok a s') := by
  unfold slK at h
  split at h
  · exact .inl ⟨_, _, _, _, _, rfl, h⟩
  · exact .inr ⟨_, _, _, _, rfl, h⟩
  · exact (fail_ok h).elim
theorem indexAddr_sim {t : TypeId} {a i : AVal} (h : (indexAddr E t a i).run s = .ok v s') (ho : OkObs s') (hr : Rel E.P ρ m s.heap.get w) {x y : Value} (hx : R ρ m a x) (hy : R ρ m i y) :
    Out E.P ρ m s w s' v ((Instr.indexAt t x y).run E.P w) := by
  obtain ⟨d, s1, h1, h2⟩ := M.bind_ok h
  obtain ⟨⟨i0, hi, rfl⟩, rfl⟩ := und_ok h1
  have hu := hi.run_und (w := w)
  obtain ⟨q, n, rfl, h3⟩ := int_ok h2
  obtain rfl := hy.int_inv
  cases hd : i0.desc with
  | array len e =>
    rw [hd] at h3 hu
    obtain ⟨k, s2, h4, h5⟩ := M.bind_ok h3
    obtain ⟨⟨j, hj, rfl⟩, rfl⟩ := sizeOf_ok h4
    obtain ⟨p, s3, h6, h7, ho3, _, _⟩ := M.bind_did h5 ho
    obtain ⟨hb, rfl, e1⟩ := idx_ok h6 ho3
    obtain ⟨rfl, ad, rfl, hsp, hv⟩ := moved_sim h7 hx
    have hb' : 0 ≤ n ∧ n < (len : Int) := hb
    simp only [Instr.indexAt, asIntOf, Sem.run_bind, hu, Result.andThen_ok, Instr.sureAddr, Sem.run_pure, hb', and_self, if_true, hj.run_size, add_none hsp]
    exact .same hr e1 hv
  | slice e =>
    rw [hd] at h3 hu
    obtain ⟨k, s2, h4, h5⟩ := M.bind_ok h3
    obtain ⟨⟨j, hj, rfl⟩, rfl⟩ := sizeOf_ok h4
    rcases slK_ok h5 with ⟨id, off, len, cap, sz, rfl, h6⟩ | ⟨g, sz, off, len, rfl, h6⟩
    · cases hb : j.size.beq sz with
      | false => rw [hb] at h6; exact (fail_ok h6).elim
      | true =>
        rw [hb] at h6
        obtain ⟨p, s3, h7, h8, ho3, _, _⟩ := M.bind_did h6 ho
        obtain ⟨rfl, rfl⟩ := pure_ok h8
        obtain ⟨hb', rfl, e1⟩ := idx_ok h7 ho3
        cases hx with
        | slx _ _ _ c _ r hρ hl =>
          simp only [Instr.indexAt, asIntOf, Sem.run_bind, hu, Result.andThen_ok, Sem.run_pure, hb', and_self, if_true, hj.run_size, add_plain]
          exact .same hr e1 (.ptr _ _ r hρ)
        | slw _ _ _ c _ r hρ hl hs hc =>
          simp only [Instr.indexAt, asIntOf, Sem.run_bind, hu, Result.andThen_ok, Sem.run_pure, hb', and_self, if_true, hj.run_size, add_plain]
          exact .same hr e1 (.ptr _ _ r hρ)
        | sl0 => omega
    · cases hb : j.size.beq sz with
      | false => rw [hb] at h6; exact (fail_ok h6).elim
      | true =>
        rw [hb] at h6
        have hz := Nat.eq_of_beq_eq_true hb
        obtain ⟨p, s3, h7, h8, ho3, _, _⟩ := M.bind_did h6 ho
        obtain ⟨rfl, rfl⟩ := pure_ok h8
        obtain ⟨hb', rfl, e1⟩ := idx_ok h7 ho3
        cases hx with
        | isl _ _ _ _ b o c g' hg hrr hl =>
          simp only [Instr.indexAt, asIntOf, Sem.run_bind, hu, Result.andThen_ok, Sem.run_pure, hb', and_self, if_true, hj.run_size, add_plain]
          refine .same hr e1 ?_
          have := R.ip (ρ := ρ) (m := m) g (off + len * sz) (off + n.toNat * j.size) b o g' hg hrr
          rw [← Nat.add_assoc] at this
          exact this
        | isl0 => omega
  | _ => rw [hd] at h3; exact (fail_ok h3).elim
theorem part_sim {t : TypeId} {cs : List AVal} {off : Nat} (h : (part E t cs off).run s = .ok v s') {xs : Array Value} (hx : RL ρ m cs xs) (w : World) :
    s' = s ∧ ∃ x, (Go.part t xs off).run E.P w = .ok x w ∧ R ρ m v x := by
  obtain ⟨i, s1, h1, h2⟩ := M.bind_ok h
  obtain ⟨hi, rfl⟩ := ti_ok h1
  have e1 := hi.run_isAgg (w := w)
  cases hb : aggB i.desc with
  | true =>
    rw [hb] at h2 e1
    obtain ⟨rfl, rfl⟩ := pure_ok h2
    refine ⟨rfl, .agg (xs.extract off (off + i.size)), by simp only [Go.part, Sem.run_bind, e1, Result.andThen_ok, if_true, hi.run_size, Sem.run_pure], .agg _ _ ?_ ?_⟩
    · simp only [List.length_take, List.length_drop, Array.size_extract, hx.len]; omega
    · intro k a b ha hb'
      have hk : k < i.size := by
        have := (List.getElem?_eq_some_iff.1 ha).1
        simp only [List.length_take] at this; omega
      rw [List.getElem?_take_of_lt hk, List.getElem?_drop] at ha
      rw [Array.getElem?_extract] at hb'
      split at hb'
      · exact hx.at_ _ a b ha hb'
      · cases hb'
  | false =>
    rw [hb] at h2 e1
    obtain ⟨h3, rfl⟩ := getO_ok h2
    have hlt := (List.getElem?_eq_some_iff.1 h3).1
    have hx' : xs[off]? = some (xs[off]'(by rw [← hx.len]; exact hlt)) := Array.getElem?_eq_getElem _
    refine ⟨rfl, _, by simp only [Go.part, Sem.run_bind, e1, Result.andThen_ok, Bool.false_eq_true, if_false, hx', Sem.run_pure], hx.at_ _ _ _ h3 hx'⟩
theorem field_sim {t : TypeId} {a : AVal} {i : Nat} (h : (field E t a i).run s = .ok v s') (hr : Rel E.P ρ m s.heap.get w) {x : Value} (hx : R ρ m a x) :
    Out E.P ρ m s w s' v ((Instr.field t x i).run E.P w) := by
  obtain ⟨d, s1, h1, h2⟩ := M.bind_ok h
  obtain ⟨⟨i0, hi, rfl⟩, rfl⟩ := und_ok h1
  have hu := hi.run_und (w := w)
  cases hd : i0.desc with
  | struct fs =>
    rw [hd] at h2 hu
    obtain ⟨l, rfl, h3⟩ := agg_ok h2
    obtain ⟨xs, rfl, hxs⟩ := hx.agg_inv
    obtain ⟨f, s2, h4, h5⟩ := M.bind_ok h3
    obtain ⟨h4g, rfl⟩ := getO_ok h4
    obtain ⟨rfl, y, h6, h7⟩ := part_sim h5 hxs w
    have hf : fs[i]? = some f := by simpa using h4g
    simp only [Instr.field, Sem.run_bind, hu, Result.andThen_ok, hf, asAgg, Sem.run_pure, h6]
    exact .same hr (.refl _) h7
  | _ => rw [hd] at h2; exact (fail_ok h2).elim
theorem index_sim {t : TypeId} {a i : AVal} (h : (index E t a i).run s = .ok v s') (ho : OkObs s') (hr : Rel E.P ρ m s.heap.get w) {x y : Value} (hx : R ρ m a x) (hy : R ρ m i y) :
    Out E.P ρ m s w s' v ((Instr.index t x y).run E.P w) := by
  obtain ⟨d, s1, h1, h2⟩ := M.bind_ok h
  obtain ⟨⟨i0, hi, rfl⟩, rfl⟩ := und_ok h1
  have hu := hi.run_und (w := w)
  obtain ⟨q, n, rfl, h3⟩ := int_ok h2
  obtain rfl := hy.int_inv
  cases hd : i0.desc with
  | array len e =>
    rw [hd] at h3 hu
    obtain ⟨l, rfl, h4⟩ := agg_ok h3
    obtain ⟨xs, rfl, hxs⟩ := hx.agg_inv
    obtain ⟨p, s3, h6, h7, ho3, _, _⟩ := M.bind_did h4 ho
    obtain ⟨hb, rfl, e1⟩ := idx_ok h6 ho3
    obtain ⟨k, s4, h8, h9⟩ := M.bind_ok h7
    obtain ⟨⟨j, hj, rfl⟩, rfl⟩ := sizeOf_ok h8
    obtain ⟨rfl, z, h10, h11⟩ := part_sim h9 hxs w
    simp only [Instr.index, asIntOf, Sem.run_bind, hu, Result.andThen_ok, Sem.run_pure, hb, and_self, if_true, hj.run_size, h10]
    exact .same hr e1 h11
  | string =>
    rw [hd] at h3 hu
    obtain ⟨l, rfl, h4⟩ := str_ok h3
    obtain rfl := hx.str_inv
    obtain ⟨p, s3, h6, h7, ho3, _, _⟩ := M.bind_did h4 ho
    obtain ⟨hb, rfl, e1⟩ := idx_ok h6 ho3
    obtain ⟨rfl, rfl⟩ := pure_ok h7
    have hlt : n.toNat < l.length := by omega
    have hget : (⟨⟨l⟩⟩ : ByteArray)[n.toNat]? = some l[n.toNat] := by
      have : n.toNat < (⟨⟨l⟩⟩ : ByteArray).size := hlt
      rw [getElem?_pos (⟨⟨l⟩⟩ : ByteArray) n.toNat this]
      rfl
    simp only [Instr.index, asIntOf, Sem.run_bind, hu, Result.andThen_ok, Sem.run_pure, hb.1, if_true, hget]
    refine .same hr e1 ?_
    have : byteAt l n.toNat = l[n.toNat] := by simp [byteAt, List.getD, List.getElem?_eq_getElem hlt]
    rw [this]
    exact .int _ _
  | _ => rw [hd] at h3; exact (fail_ok h3).elim
end
end Go.Am
