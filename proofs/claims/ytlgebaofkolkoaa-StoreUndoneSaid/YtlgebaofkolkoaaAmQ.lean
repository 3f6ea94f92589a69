/- The abstract machine. -/
import Derived.Test.YtlgebaofkolkoaaAmP
set_option linter.unusedSimpArgs false
set_option linter.unusedVariables false
namespace Go.Am
open Go
variable {E : Env}
section
variable {ρ : Ren} {m : Mem} {s s' : St} {w : World} {v : a9}
theorem R.gY {l : List a9} {x : Value} (h : R ρ m (.agg l) x) : ∃ c, x = .agg c ∧ RL ρ m l c := by
 cases h with
 | agg l c hl hr => exact ⟨c, rfl, hl, hr⟩
theorem R.cQ {k : IntKind} {n : Int} {x : Value} (h : R ρ m (.int k n) x) : x = .int k n := by cases h; rfl
theorem R.fT {l : List UInt8} {x : Value} (h : R ρ m (.str l) x) : x = .string ⟨⟨l⟩⟩ := by cases h; rfl
theorem R.jB {b : Bool} {x : Value} (h : R ρ m (.bool b) x) : x = .bool b := by cases h; rfl
theorem R.oL {b : Bool} {x : Value} (h : R ρ m (.blit b) x) : x = .bool b := by cases h; rfl
theorem TOk.sD {P : Program} {t : TypeId} {i : TI} (hi : TOk P t i) {z : Value} (h : ofValue z = i.zero) : RL ρ m i.zero.cells z.cells :=
 R.cells (by rw [← h]; exact gN z) (fun e => by have := hi.zj; rw [e] at this; cases this)
theorem GS {t : TypeId} {parts : List (Nat × a9)} {parts' : List (Nat × Value)} (h : (build E t parts).run s = .ok v s') (ho : bU s') (hr : Rel E.P ρ m s.heap.get w) (hp : RP ρ m parts parts') :
  Out E.P ρ m s w s' v ((Instr.build t parts'.toArray).run E.P w) := by
 obtain ⟨i, s1, h1, h2⟩ := M.aM h
 obtain ⟨hi, rfl⟩ := kR h1
 obtain ⟨z, hz, hzi⟩ := hi.kV (w := w)
 have hu := hi.dR (w := w)
 have hzc := hi.sD (ρ := ρ) (m := m) hzi
 cases hd : i.desc with
 | struct fs =>
  rw [hd] at h2 hu
  obtain ⟨ps, s2, h3, h4⟩ := M.aM h2
  obtain ⟨rfl, h7⟩ := CC _ h3
  obtain ⟨cs, s3, h5, h6⟩ := M.aM h4
  obtain ⟨h5g, rfl⟩ := iT h5
  obtain ⟨rfl, rfl⟩ := aE h6
  obtain ⟨out, k1, k2⟩ := rF parts parts' _ _ cs hp hzc h5g
  have h8 := h7 w
  simp only [Instr.build, Sem.run_bind, hz, hu, Result.andThen_ok, h8, List.getElem?_toArray, k1, Sem.run_pure]
  exact .same hr (.refl _) (.agg _ _ k2.len k2.at_)
 | array n e =>
  rw [hd] at h2 hu
  obtain ⟨n, s2, h3, h4⟩ := M.aM h2
  obtain ⟨⟨j, hj, rfl⟩, rfl⟩ := fR h3
  obtain ⟨cs, s3, h5, h6⟩ := M.aM h4
  obtain ⟨h5g, rfl⟩ := iT h5
  obtain ⟨rfl, rfl⟩ := aE h6
  obtain ⟨out, k1, k2⟩ := rF parts parts' _ _ cs hp hzc h5g
  simp only [Instr.build, Sem.run_bind, hz, hu, Result.andThen_ok, hj.dJ, k1, Sem.run_pure]
  exact .same hr (.refl _) (.agg _ _ k2.len k2.at_)
 | _ => rw [hd] at h2; exact (aG h2).elim
theorem lQ (z : List a9) : ∀ n, (fF z n).length = n * z.length
 | 0 => by simp [fF]
 | n + 1 => by simp [fF, lQ z n, Nat.succ_mul, Nat.add_comm]
theorem AE (z : List a9) : ∀ (n i : Nat), i < n * z.length → (fF z n)[i]? = z[i % z.length]?
 | 0, i, h => by simp at h
 | n + 1, i, h => by
  simp only [fF]
  by_cases hi : i < z.length
  ·rw [List.getElem?_append_left hi, Nat.mod_eq_of_lt hi]
  ·have hz : z.length ≤ i := by omega
   rw [List.getElem?_append_right hz, AE z n (i - z.length) (by rw [Nat.succ_mul] at h; omega), ← Nat.mod_eq_sub_mod hz]
theorem qS {zs : List a9} {zx : Array Value} (hz : RL ρ m zs zx) (n : Nat) : RL ρ m (fF zs n) ((Array.range (n * zx.size)).map (zx[· % zx.size]!)) := by
 refine ⟨by simp [lQ, hz.len], fun i a b ha hb => ?_⟩
 have hi : i < n * zs.length := by
  have := (List.getElem?_eq_some_iff.1 ha).1
  rwa [lQ] at this
 rw [AE _ _ _ hi] at ha
 have hpos : 0 < zs.length := by
  rcases Nat.eq_zero_or_pos zs.length with h0 | h0
  ·rw [h0] at hi; omega
  ·exact h0
 have hb' : b = zx[i % zx.size]! := by
  have hi' : i < n * zx.size := by rw [← hz.len]; exact hi
  simp only [Array.getElem?_map, Array.getElem?_range, hi', if_true, Option.map_some, Option.some.injEq] at hb
  exact hb.symm
 have hlt : i % zx.size < zx.size := Nat.mod_lt _ (by rw [← hz.len]; exact hpos)
 have e : zx[i % zx.size]? = some b := by
  rw [hb', Array.getElem?_eq_getElem hlt, getElem!_pos zx _ hlt]
 rw [hz.len] at ha
 exact hz.at_ _ a b ha e
theorem qX {t : TypeId} {cs : List a9} {id : Nat} (h : (newRow E t cs).run s = .ok id s') (hr : Rel E.P ρ m s.heap.get w) (hf : eK ρ s s') {arr : Array Value} (hc : RL ρ m cs arr) :
  ∃ i, TOk E.P t i ∧ eJ E.P ρ m s w (ρ.put id ⟨w.heap.size, arr.size, i.size⟩) m s' (w.alloc (.cells arr t)) := by
 obtain ⟨i, s1, h1, h2⟩ := M.aM h
 obtain ⟨hi, rfl⟩ := kR h1
 obtain ⟨_, hp⟩ := qA h2 hr hf hi (arr := arr) (by simp [bM.size, hc.len]) (fun j z hjz hz => by
  simp only [bM.size] at hjz
  simp only [bM.at, fU, List.getElem?_eq_getElem hjz, Option.getD_some]
  exact hc.at_ j _ z (List.getElem?_eq_getElem hjz) hz)
 exact ⟨i, hi, hp⟩
theorem kW (P : Program) (w : World) (t : TypeId) (arr : Array Value) : (Go.newRow t arr).run P w = .ok ⟨w.heap.size, 0, none⟩ (w.alloc (.cells arr t)) := by
 simp only [Go.newRow, Sem.run_bind, run_newObj_alloc, Result.andThen_ok, Sem.run_pure]
theorem wI {t : TypeId} {len : Nat} {parts : List (Nat × a9)} {parts' : List (Nat × Value)} (h : (buildSlice E t len parts).run s = .ok v s') (ho : bU s') (hr : Rel E.P ρ m s.heap.get w) (hf : eK ρ s s')
  (hp : RP ρ m parts parts') : Out E.P ρ m s w s' v ((Instr.buildSlice t len parts'.toArray).run E.P w) := by
 obtain ⟨d, s1, h1, h2⟩ := M.aM h
 obtain ⟨⟨i, hi, rfl⟩, rfl⟩ := eM h1
 have hu := hi.dR (w := w)
 cases hd : i.desc with
 | slice e =>
  rw [hd] at h2 hu
  obtain ⟨j, s2, h3, h4⟩ := M.aM h2
  obtain ⟨hj, rfl⟩ := kR h3
  cases hb : (len * j.size).ble 16777216 with
  | false => rw [hb] at h4; exact (aG h4).elim
  | true =>
   rw [hb] at h4
   have hle := Nat.le_of_ble_eq_true hb
   obtain ⟨cs, s3, h5, h6⟩ := M.aM h4
   obtain ⟨h5g, rfl⟩ := iT h5
   obtain ⟨id, s4, h7, h8⟩ := M.aM h6
   obtain ⟨rfl, rfl⟩ := aE h8
   obtain ⟨z, hz, hzi⟩ := hj.kV (w := w)
   have hzc := hj.sD (ρ := ρ) (m := m) hzi
   have hzs : z.cells.size = j.size := by rw [← hzc.len, hj.zsize]
   have hle' : ¬ (len * j.size > 2 ^ 24) := by omega
   have hreps := qS hzc len
   rw [hzs] at hreps
   obtain ⟨out, k1, k2⟩ := rF parts parts' _ _ cs hp hreps h5g
   obtain ⟨j', hj', hp'⟩ := qX h7 hr hf k2
   have ej : j'.size = j.size := by
    have := hj'.kK
    rw [hj.kK] at this
    injection this with this
    exact this.symm
   refine ⟨_, _, _, ?_, hp', .slx id 0 len len j.size ⟨w.heap.size, out.size, j'.size⟩ (by simp [Ren.put]) (Nat.le_refl _)⟩
   simp only [Instr.buildSlice, Sem.run_bind, hu, hj.dJ, Result.andThen_ok, hle', if_false]
   by_cases h0 : len * j.size = 0
   ·have harr : ((Array.range (len * j.size)).map ((#[] : Array Value)[· % (#[] : Array Value).size]!)) = ((Array.range (len * j.size)).map (z.cells[· % j.size]!)) := by rw [h0]; simp
    rw [if_pos h0]
    simp only [Sem.run_bind, Result.andThen_ok, Sem.run_pure]
    rw [harr]
    simp only [k1, kW, Sem.run_bind, Result.andThen_ok, Sem.run_pure]
   ·rw [if_neg h0]
    simp only [Sem.run_bind, Result.andThen_ok, Sem.run_pure, hz, hzs, k1, kW]
 | _ => rw [hd] at h2; exact (aG h2).elim
theorem xQ {n : Nat} {a : a9} (h : (aO n a).run s = .ok v s') {x : Value} (hx : R ρ m a x) : s' = s ∧ ∃ ad, x = .pointer (some ad) ∧ ad.spot = none ∧ R ρ m v (.pointer (some ⟨ad.block, ad.off + n, none⟩)) := by
 unfold aO at h
 split at h
 ·obtain ⟨rfl, rfl⟩ := aE h
  cases hx with
  | ptr id off r hρ => exact ⟨rfl, _, rfl, rfl, .ptr _ _ r hρ⟩
 ·rename_i f k off
  obtain ⟨rfl, rfl⟩ := aE h
  cases hx with
  | ip _ _ _ b o g' hg hrr =>
   refine ⟨rfl, _, rfl, rfl, ?_⟩
   have := R.ip (ρ := ρ) (m := m) f k (off + n) b o g' hg hrr
   rw [← Nat.add_assoc] at this
   exact this
 ·exact (aG h).elim
theorem C0 {a : Addr} (h : a.spot = none) (n : Nat) : a.add n = ⟨a.block, a.off + n, none⟩ := by
 obtain ⟨b, o, sp⟩ := a
 simp only at h
 subst h
 exact add_plain b o n
theorem wZ {t : TypeId} {a : a9} {i : Nat} (h : (fieldAddr E t a i).run s = .ok v s') (hr : Rel E.P ρ m s.heap.get w) {x : Value} (hx : R ρ m a x) :
  Out E.P ρ m s w s' v ((Instr.fieldAt t x i).run E.P w) := by
 obtain ⟨d, s1, h1, h2⟩ := M.aM h
 obtain ⟨⟨i0, hi, rfl⟩, rfl⟩ := eM h1
 have hu := hi.dR (w := w)
 cases hd : i0.desc with
 | struct fs =>
  rw [hd] at h2 hu
  obtain ⟨f, s2, h3, h4⟩ := M.aM h2
  obtain ⟨h3g, rfl⟩ := iT h3
  obtain ⟨n, s3, h5, h6⟩ := M.aM h4
  obtain ⟨⟨j, hj, rfl⟩, rfl⟩ := fR h5
  cases hb : j.size.beq 0 with
  | true => rw [hb] at h6; exact (aG h6).elim
  | false =>
   rw [hb] at h6
   have hne : ¬ j.size = 0 := fun e => by rw [e] at hb; cases hb
   obtain ⟨rfl, ad, rfl, hsp, hv⟩ := xQ h6 hx
   have hf : fs[i]? = some f := by simpa using h3g
   simp only [Instr.fieldAt, Sem.run_bind, hu, Result.andThen_ok, hf, Instr.sureAddr, Sem.run_pure, fieldPlace, hj.dJ, hne, if_false, C0 hsp]
   exact .same hr (.refl _) hv
 | _ => rw [hd] at h2; exact (aG h2).elim
theorem vF {i : Int} {len j : Nat} (h : (idx i len).run s = .ok j s') (ho : bU s') : (0 ≤ i ∧ i < (len : Int)) ∧ j = i.toNat ∧ fM s s' := by
 obtain ⟨_, s1, h1, h2, ho1, _, _⟩ := M.aL h ho
 obtain ⟨rfl, rfl⟩ := aE h2
 obtain ⟨h3, h4⟩ := eF h1 ho1
 exact ⟨of_decide_eq_true h3, rfl, h4⟩
theorem QJ {α : Type} {k : Nat → Nat → Nat → Option Nat → Nat → M α} {k2 : (Nat → a9) → Nat → Nat → Nat → M α} {v : a9} {a : α} (h : (slK k k2 v).run s = .ok a s') :
  (∃ id off len cap sz, v = .sl id off len cap sz ∧ (k id off len cap sz).run s = .ok a s') ∨ (∃ g sz off len, v = .isl g sz off len ∧ (k2 g sz off len).run s = .ok a s') := by
 unfold slK at h
 split at h
 ·exact .inl ⟨_, _, _, _, _, rfl, h⟩
 ·exact .inr ⟨_, _, _, _, rfl, h⟩
 ·exact (aG h).elim
theorem wY {t : TypeId} {a i : a9} (h : (indexAddr E t a i).run s = .ok v s') (ho : bU s') (hr : Rel E.P ρ m s.heap.get w) {x y : Value} (hx : R ρ m a x) (hy : R ρ m i y) :
  Out E.P ρ m s w s' v ((Instr.indexAt t x y).run E.P w) := by
 obtain ⟨d, s1, h1, h2⟩ := M.aM h
 obtain ⟨⟨i0, hi, rfl⟩, rfl⟩ := eM h1
 have hu := hi.dR (w := w)
 obtain ⟨q, n, rfl, h3⟩ := mV h2
 obtain rfl := hy.cQ
 cases hd : i0.desc with
 | array len e =>
  rw [hd] at h3 hu
  obtain ⟨k, s2, h4, h5⟩ := M.aM h3
  obtain ⟨⟨j, hj, rfl⟩, rfl⟩ := fR h4
  obtain ⟨p, s3, h6, h7, ho3, _, _⟩ := M.aL h5 ho
  obtain ⟨hb, rfl, e1⟩ := vF h6 ho3
  obtain ⟨rfl, ad, rfl, hsp, hv⟩ := xQ h7 hx
  have hb' : 0 ≤ n ∧ n < (len : Int) := hb
  simp only [Instr.indexAt, asIntOf, Sem.run_bind, hu, Result.andThen_ok, Instr.sureAddr, Sem.run_pure, hb', and_self, if_true, hj.dJ, C0 hsp]
  exact .same hr e1 hv
 | slice e =>
  rw [hd] at h3 hu
  obtain ⟨k, s2, h4, h5⟩ := M.aM h3
  obtain ⟨⟨j, hj, rfl⟩, rfl⟩ := fR h4
  rcases QJ h5 with ⟨id, off, len, cap, sz, rfl, h6⟩ | ⟨g, sz, off, len, rfl, h6⟩
  ·cases hb : j.size.beq sz with
   | false => rw [hb] at h6; exact (aG h6).elim
   | true =>
    rw [hb] at h6
    obtain ⟨p, s3, h7, h8, ho3, _, _⟩ := M.aL h6 ho
    obtain ⟨rfl, rfl⟩ := aE h8
    obtain ⟨hb', rfl, e1⟩ := vF h7 ho3
    cases hx with
    | slx _ _ _ c _ r hρ hl =>
     simp only [Instr.indexAt, asIntOf, Sem.run_bind, hu, Result.andThen_ok, Sem.run_pure, hb', and_self, if_true, hj.dJ, add_plain]
     exact .same hr e1 (.ptr _ _ r hρ)
    | slw _ _ _ c _ r hρ hl hs hc =>
     simp only [Instr.indexAt, asIntOf, Sem.run_bind, hu, Result.andThen_ok, Sem.run_pure, hb', and_self, if_true, hj.dJ, add_plain]
     exact .same hr e1 (.ptr _ _ r hρ)
    | sl0 => omega
  ·cases hb : j.size.beq sz with
   | false => rw [hb] at h6; exact (aG h6).elim
   | true =>
    rw [hb] at h6
    have hz := Nat.eq_of_beq_eq_true hb
    obtain ⟨p, s3, h7, h8, ho3, _, _⟩ := M.aL h6 ho
    obtain ⟨rfl, rfl⟩ := aE h8
    obtain ⟨hb', rfl, e1⟩ := vF h7 ho3
    cases hx with
    | isl _ _ _ _ b o c g' hg hrr hl =>
     simp only [Instr.indexAt, asIntOf, Sem.run_bind, hu, Result.andThen_ok, Sem.run_pure, hb', and_self, if_true, hj.dJ, add_plain]
     refine .same hr e1 ?_
     have := R.ip (ρ := ρ) (m := m) g (off + len * sz) (off + n.toNat * j.size) b o g' hg hrr
     rw [← Nat.add_assoc] at this
     exact this
    | isl0 => omega
 | _ => rw [hd] at h3; exact (aG h3).elim
theorem jV {t : TypeId} {cs : List a9} {off : Nat} (h : (part E t cs off).run s = .ok v s') {xs : Array Value} (hx : RL ρ m cs xs) (w : World) :
  s' = s ∧ ∃ x, (Go.part t xs off).run E.P w = .ok x w ∧ R ρ m v x := by
 obtain ⟨i, s1, h1, h2⟩ := M.aM h
 obtain ⟨hi, rfl⟩ := kR h1
 have e1 := hi.xJ (w := w)
 cases hb : eD i.desc with
 | true =>
  rw [hb] at h2 e1
  obtain ⟨rfl, rfl⟩ := aE h2
  refine ⟨rfl, .agg (xs.extract off (off + i.size)), by simp only [Go.part, Sem.run_bind, e1, Result.andThen_ok, if_true, hi.dJ, Sem.run_pure], .agg _ _ ?_ ?_⟩
  ·simp only [List.length_take, List.length_drop, Array.size_extract, hx.len]; omega
  ·intro k a b ha hb'
   have hk : k < i.size := by
    have := (List.getElem?_eq_some_iff.1 ha).1
    simp only [List.length_take] at this; omega
   rw [List.getElem?_take_of_lt hk, List.getElem?_drop] at ha
   rw [Array.getElem?_extract] at hb'
   split at hb'
   ·exact hx.at_ _ a b ha hb'
   ·cases hb'
 | false =>
  rw [hb] at h2 e1
  obtain ⟨h3, rfl⟩ := iT h2
  have hlt := (List.getElem?_eq_some_iff.1 h3).1
  have hx' : xs[off]? = some (xs[off]'(by rw [← hx.len]; exact hlt)) := Array.getElem?_eq_getElem _
  refine ⟨rfl, _, by simp only [Go.part, Sem.run_bind, e1, Result.andThen_ok, Bool.false_eq_true, if_false, hx', Sem.run_pure], hx.at_ _ _ _ h3 hx'⟩
theorem GH {t : TypeId} {a : a9} {i : Nat} (h : (field E t a i).run s = .ok v s') (hr : Rel E.P ρ m s.heap.get w) {x : Value} (hx : R ρ m a x) :
  Out E.P ρ m s w s' v ((Instr.field t x i).run E.P w) := by
 obtain ⟨d, s1, h1, h2⟩ := M.aM h
 obtain ⟨⟨i0, hi, rfl⟩, rfl⟩ := eM h1
 have hu := hi.dR (w := w)
 cases hd : i0.desc with
 | struct fs =>
  rw [hd] at h2 hu
  obtain ⟨l, rfl, h3⟩ := kB h2
  obtain ⟨xs, rfl, hxs⟩ := hx.gY
  obtain ⟨f, s2, h4, h5⟩ := M.aM h3
  obtain ⟨h4g, rfl⟩ := iT h4
  obtain ⟨rfl, y, h6, h7⟩ := jV h5 hxs w
  have hf : fs[i]? = some f := by simpa using h4g
  simp only [Instr.field, Sem.run_bind, hu, Result.andThen_ok, hf, asAgg, Sem.run_pure, h6]
  exact .same hr (.refl _) h7
 | _ => rw [hd] at h2; exact (aG h2).elim
theorem G9 {t : TypeId} {a i : a9} (h : (index E t a i).run s = .ok v s') (ho : bU s') (hr : Rel E.P ρ m s.heap.get w) {x y : Value} (hx : R ρ m a x) (hy : R ρ m i y) :
  Out E.P ρ m s w s' v ((Instr.index t x y).run E.P w) := by
 obtain ⟨d, s1, h1, h2⟩ := M.aM h
 obtain ⟨⟨i0, hi, rfl⟩, rfl⟩ := eM h1
 have hu := hi.dR (w := w)
 obtain ⟨q, n, rfl, h3⟩ := mV h2
 obtain rfl := hy.cQ
 cases hd : i0.desc with
 | array len e =>
  rw [hd] at h3 hu
  obtain ⟨l, rfl, h4⟩ := kB h3
  obtain ⟨xs, rfl, hxs⟩ := hx.gY
  obtain ⟨p, s3, h6, h7, ho3, _, _⟩ := M.aL h4 ho
  obtain ⟨hb, rfl, e1⟩ := vF h6 ho3
  obtain ⟨k, s4, h8, h9⟩ := M.aM h7
  obtain ⟨⟨j, hj, rfl⟩, rfl⟩ := fR h8
  obtain ⟨rfl, z, h10, h11⟩ := jV h9 hxs w
  simp only [Instr.index, asIntOf, Sem.run_bind, hu, Result.andThen_ok, Sem.run_pure, hb, and_self, if_true, hj.dJ, h10]
  exact .same hr e1 h11
 | string =>
  rw [hd] at h3 hu
  obtain ⟨l, rfl, h4⟩ := kT h3
  obtain rfl := hx.fT
  obtain ⟨p, s3, h6, h7, ho3, _, _⟩ := M.aL h4 ho
  obtain ⟨hb, rfl, e1⟩ := vF h6 ho3
  obtain ⟨rfl, rfl⟩ := aE h7
  have hlt : n.toNat < l.length := by omega
  have hget : (⟨⟨l⟩⟩ : ByteArray)[n.toNat]? = some l[n.toNat] := by
   have : n.toNat < (⟨⟨l⟩⟩ : ByteArray).size := hlt
   rw [getElem?_pos (⟨⟨l⟩⟩ : ByteArray) n.toNat this]
   rfl
  simp only [Instr.index, asIntOf, Sem.run_bind, hu, Result.andThen_ok, Sem.run_pure, hb.1, if_true, hget]
  refine .same hr e1 ?_
  have : DL l n.toNat = l[n.toNat] := by simp [DL, List.getD, List.getElem?_eq_getElem hlt]
  rw [this]
  exact .int _ _
 | _ => rw [hd] at h3; exact (aG h3).elim
end
end Go.Am
