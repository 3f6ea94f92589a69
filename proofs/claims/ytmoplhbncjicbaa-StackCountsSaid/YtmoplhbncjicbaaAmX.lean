/- The abstract machine's operations do what the model's do: make, copy, conversions, iterators of strings. -/
import Derived.Test.YtmoplhbncjicbaaAmW
set_option linter.unusedSimpArgs false
set_option linter.unusedVariables false
namespace Go.Am
open Go

variable {E : Env}
section
variable {ρ : Ren} {m : Mem} {s s' : St} {w : World} {v : AVal}

theorem wrap_fit (n : Int) (h0 : 0 ≤ n) (h1 : n ≤ 9223372036854775807) : IntKind.i64.wrap n = n := by
  rw [IntKind.wrap_i64]; omega
theorem makeSlice_sim {t : TypeId} {a b : AVal} (h : (makeSlice E t a b).run s = .ok v s') (ho : OkObs s') (hr : Rel E.P ρ m s.heap.get w) (hf : Fresh ρ s s') {x y : Value} (hx : R ρ m a x) (hy : R ρ m b y) :
    Out E.P ρ m s w s' v ((Instr.makeSlice t x y).run E.P w) := by
  obtain ⟨d, s1, h1, h2⟩ := M.bind_ok h
  obtain ⟨⟨i, hi, rfl⟩, rfl⟩ := und_ok h1
  have hu := hi.run_und (w := w)
  cases hd : i.desc with
  | slice e =>
    rw [hd] at h2 hu
    obtain ⟨j, s2, h3, h4⟩ := M.bind_ok h2
    obtain ⟨hj, rfl⟩ := ti_ok h3
    obtain ⟨q1, l, rfl, h5⟩ := int_ok h4
    obtain ⟨q2, c, rfl, h6⟩ := int_ok h5
    obtain ⟨_, s3, h7, h8, ho3, _, _⟩ := M.bind_did h6 ho
    obtain ⟨hb, e3⟩ := ob_ok h7 ho3
    obtain ⟨b1, b2, b3, b4⟩ := of_decide_eq_true hb
    obtain ⟨id, s4, h9, h10⟩ := M.bind_ok h8
    obtain ⟨rfl, rfl⟩ := pure_ok h10
    obtain rfl := hx.int_inv
    obtain rfl := hy.int_inv
    obtain ⟨j', hj', hjs, hjb, z, hjz, hzi⟩ := hj.run_info (w := w)
    have hz : (zeroValue e).run E.P w = .ok z w := by
      obtain ⟨z', hz', hzi'⟩ := hj.run_zero (w := w)
      have : (zeroValue e).run E.P w = .ok z w := by
        simp only [zeroValue, Sem.run_bind, hj', Result.andThen_ok, hjz]; rfl
      exact this
    have hzc := hj.zcells (ρ := ρ) (m := m) hzi
    have hzs : z.cells.size = j.size := by rw [← hzc.len, hj.zsize]
    have hreps := reps_sim hzc c.toNat
    rw [hzs] at hreps
    have hr3 := hr.of_same e3
    have hf3 := hf.of_same e3
    obtain ⟨j2, hj2, hp⟩ := newBlock_sim h9 hr3 hf3 hreps
    have wl : IntKind.i64.wrap l = l := wrap_fit l b1 (by omega)
    have wc : IntKind.i64.wrap c = c := wrap_fit c (by omega) b3
    have c1 : ¬ c < 0 := by omega
    have c2 : ¬ ((j'.bytes : Int) * c > 2 ^ 48) := by rw [hjb]; omega
    have c3 : ¬ l < 0 := by omega
    have c4 : ¬ l > c := by omega
    refine ⟨_, _, _, ?_, hp.after e3, .slx id 0 l.toNat c.toNat j.size _ (by simp [Ren.put]; rfl) (by omega)⟩
    simp only [Instr.makeSlice, Sem.run_bind, hu, Result.andThen_ok, asInt, asIntOf, Sem.run_pure, hj', wl, wc, c1, c2, c3, c4, decide_false, Bool.or_self, Bool.false_eq_true, if_false, hj.run_size, run_askRoom, or_self]
    by_cases h0 : c.toNat * j.size = 0
    · have harr : ((Array.range (c.toNat * j.size)).map ((#[] : Array Value)[· % (#[] : Array Value).size]!)) = ((Array.range (c.toNat * j.size)).map (z.cells[· % j.size]!)) := by rw [h0]; simp
      rw [if_pos h0]
      simp only [Sem.run_bind, Result.andThen_ok, Sem.run_pure]
      rw [harr]
      simp only [run_newRow, Sem.run_bind, Result.andThen_ok, Sem.run_pure]
    · rw [if_neg h0]
      simp only [Sem.run_bind, Result.andThen_ok, Sem.run_pure, hz, hzs, run_newRow]
  | _ => rw [hd] at h2; exact (fail_ok h2).elim

theorem copy_sim {ts : Array TypeId} {ty t : TypeId} (hts : ts[0]? = some t) {a b : AVal} (h : (copy E t a b).run s = .ok v s') (ho : OkObs s') (hr : Rel E.P ρ m s.heap.get w) {x y : Value} (hx : R ρ m a x) (hy : R ρ m b y) :
    Out E.P ρ m s w s' v ((Builtin.copy_ ts ty #[x, y]).run E.P w) := by
  obtain ⟨d, s1, h1, h2⟩ := M.bind_ok h
  obtain ⟨⟨i, hi, rfl⟩, rfl⟩ := und_ok h1
  have hu := hi.run_und (w := w)
  cases hd : i.desc with
  | slice e =>
    rw [hd] at h2 hu
    obtain ⟨n1, s2, h3, h4⟩ := M.bind_ok h2
    obtain ⟨rfl, k1⟩ := lenOf_sim (P := E.P) (w := w) h3 hy
    obtain ⟨n2, s3, h5, h6⟩ := M.bind_ok h4
    obtain ⟨rfl, k2⟩ := lenOf_sim (P := E.P) (w := w) h5 hx
    obtain ⟨sz, s4, h7, h8⟩ := M.bind_ok h6
    obtain ⟨⟨j, hj, rfl⟩, rfl⟩ := sizeOf_ok h7
    obtain ⟨nothing, s5, h9, h10, ho5, _, _⟩ := M.bind_did h8 ho
    obtain ⟨hq, e5⟩ := ask_ok h9 ho5
    cases nothing with
    | true =>
      have hmin : min n1 n2 = 0 := Nat.eq_of_beq_eq_true hq.symm
      have fin : ∀ (base : Option Addr) (l c : Nat), x = .slice base l c → v = .int .i64 0 → s' = s5 → Out E.P ρ m s4 w s' v ((Builtin.copy_ ts ty #[x, y]).run E.P w) := by
        intro base l c hxe hv hs
        subst hxe; subst hv; subst hs
        have hl : l = n2 := by
          have := k2
          simp only [Builtin.lenOf] at this
          injection this
        subst hl
        have hm0 : Nat.min n1 l = 0 := hmin
        have hfc : (Builtin.firstCells j.size 0 y).run E.P w = .ok #[] w := by
          have sl : ∀ (o : Option Addr) (l c : Nat), (Builtin.firstCells j.size 0 (.slice o l c)).run E.P w = .ok #[] w := fun o l c => by
            cases o with
            | none => rfl
            | some ad => simp only [Builtin.firstCells, Nat.zero_mul]; rfl
          unfold lenOf at h3
          split at h3
          · cases hy; exact sl _ _ _
          · cases hy; exact sl _ _ _
          · cases hy <;> exact sl _ _ _
          · cases hy <;> exact sl _ _ _
          · cases hy
            simp [Builtin.firstCells, getE_take_drop]
          · exact (fail_ok h3).elim
        have hout : (Builtin.copy_ ts ty #[.slice base l c, y]).run E.P w = .ok (.int .i64 0) w := by
          cases base with
          | none => simp only [Builtin.copy_, hts, List.getElem?_toArray, List.getElem?_cons_zero, List.getElem?_cons_succ, Sem.run_bind, hu, Result.andThen_ok, k1, hj.run_size, hm0, hfc, Sem.run_pure]; rfl
          | some ad => simp only [Builtin.copy_, hts, List.getElem?_toArray, List.getElem?_cons_zero, List.getElem?_cons_succ, Sem.run_bind, hu, Result.andThen_ok, k1, hj.run_size, hm0, hfc, Sem.run_pure]; rfl
        rw [hout]
        exact .same hr e5 (.int _ _)
      simp only at h10
      split at h10
      · exact (fail_ok h10).elim
      · rename_i hns
        obtain ⟨hv, hs⟩ := pure_ok h10
        unfold lenOf at h5
        split at h5
        · cases hx; exact fin _ _ _ rfl hv hs
        · cases hx; exact fin _ _ _ rfl hv hs
        · cases hx <;> exact fin _ _ _ rfl hv hs
        · cases hx <;> exact fin _ _ _ rfl hv hs
        · exact absurd rfl (hns _)
        · exact (fail_ok h5).elim
    | false =>
      have hne : ¬ min n1 n2 = 0 := by intro hh; rw [hh] at hq; cases hq
      obtain ⟨cs, s6, h11, h12, ho6, _, _⟩ := M.bind_did h10 ho
      have hr5 := hr.of_same e5
      obtain ⟨xa, g1, g2, g3, e6⟩ := sliceCells_sim h11 ho6 hr5 hy
      have hr6 := hr5.of_same e6
      try simp only at h12
      split at h12
      · rename_i id off len cap sz
        obtain ⟨hsz, h13⟩ := sameSz_ok h12
        obtain ⟨_, s7, h14, h15⟩ := M.bind_ok h13
        obtain ⟨rfl, rfl⟩ := pure_ok h15
        have go : ∀ (r : RB) (c : Nat), ρ id = some r → x = .slice (some ⟨r.b, off, none⟩) len c → Out E.P ρ m s4 w s' (.int .i64 (min n1 n2 : Nat)) ((Builtin.copy_ ts ty #[x, y]).run E.P w) := by
          intro r c hρ hxe
          subst hxe
          have hl : len = n2 := by
            have := k2
            simp only [Builtin.lenOf] at this
            injection this
          subst hl
          obtain ⟨ad, w', q1, q2, q3⟩ := writeCells_sim h14 ho hr6 (.ptr id off r hρ) (xs := xa.toList) (by simpa using g2.len) (fun j p q hp hq => g2.at_ j p q hp (by simpa using hq))
          injection q1 with q1
          injection q1 with q1
          subst q1
          have hm0 : Nat.min n1 len = min n1 len := rfl
          refine ⟨_, w', ρ, ?_, q3.after (e5.trans e6), .int _ _⟩
          simp only [Builtin.copy_, hts, List.getElem?_toArray, List.getElem?_cons_zero, List.getElem?_cons_succ, Sem.run_bind, hu, Result.andThen_ok, k1, hj.run_size, hm0, g1, q2, Sem.run_pure]; rfl
        cases hx with
        | slx _ _ _ c _ r hρ hl => exact go r c hρ rfl
        | slw _ _ _ c _ r hρ hl hs hc => exact go r c hρ rfl
        | sl0 _ _ _ _ ad hc hn' =>
          have : n2 = 0 := by
            have := k2
            simp only [Builtin.lenOf] at this
            injection this with this
            exact this.symm
          omega
      · exact (fail_ok h12).elim
  | _ => rw [hd] at h2; exact (fail_ok h2).elim

/-! ### Iterators of strings -/
theorem newObj_sim {P : Program} {b : Blk} {id : Nat} (h : (newB b).run s = .ok id s') (hr : Rel P ρ m s.heap.get w) (hf : Fresh ρ s s') (o : Obj) (n sz : Nat)
    (hb : ∀ ρ', RenLe ρ ρ' → BR P ρ' m ⟨w.heap.size, n, sz⟩ b o) : id = s.next ∧ Post P ρ m s w (ρ.put id ⟨w.heap.size, n, sz⟩) m s' (w.alloc o) := by
  obtain ⟨h1, h2, h3⟩ := new_ok h
  have hρ : ρ id = none := hf id ⟨by omega, by omega⟩
  refine ⟨h1, ⟨RenLe.put hρ, fun j hj => ?_, fun _ _ h => h, hr.new hρ (hb _ (RenLe.put hρ)) h3, .alloc _ _, by omega⟩⟩
  unfold Ren.put at hj
  by_cases e : j = id
  · exact .inr ⟨by omega, by omega⟩
  · simp only [e, if_false] at hj
    exact .inl hj
theorem run_setObj_upd {P : Program} {w : World} {b : Nat} {o o' : Obj} (h : w.heap[b]? = some o) (hc : ∀ c t f, o ≠ .cells c t f) : (setObj b o').run P w = .ok () (World.upd w b o') := by
  cases o with
  | cells c t f => exact absurd rfl (hc c t f)
  | _ => simp only [setObj, Sem.run, h]; simp [World.upd, Array.set!]
theorem run_getObj_at {P : Program} {w : World} {b : Nat} {o : Obj} (h : w.heap[b]? = some o) (hc : ∀ c t f, o ≠ .cells c t f) : (getObj b).run P w = .ok o w := by
  cases o with
  | cells c t f => exact absurd rfl (hc c t f)
  | _ => simp only [getObj, Sem.run, h]
theorem range_sim {t : TypeId} {a : AVal} (h : (range E t a).run s = .ok v s') (ho : OkObs s') (hr : Rel E.P ρ m s.heap.get w) (hf : Fresh ρ s s') {x : Value} (hx : R ρ m a x) :
    Out E.P ρ m s w s' v ((Instr.range t x).run E.P w) := by
  obtain ⟨d, s1, h1, h2⟩ := M.bind_ok h
  obtain ⟨⟨i, hi, rfl⟩, rfl⟩ := und_ok h1
  have hu := hi.run_und (w := w)
  cases hd : i.desc with
  | string =>
    rw [hd] at h2 hu
    obtain ⟨l, rfl, h3⟩ := str_ok h2
    obtain rfl := hx.str_inv
    obtain ⟨id, s2, h4, h5⟩ := M.bind_ok h3
    obtain ⟨rfl, rfl⟩ := pure_ok h5
    obtain ⟨_, hp⟩ := newObj_sim h4 hr hf (.stringIter ⟨⟨l⟩⟩ 0) 0 0 (fun _ _ => .siter _ l 0)
    refine ⟨_, _, _, ?_, hp, .ptr id 0 ⟨w.heap.size, 0, 0⟩ (by simp [Ren.put])⟩
    simp only [Instr.range, Sem.run_bind, hu, Result.andThen_ok, Sem.run_pure, run_newObj_alloc]
  | map kt et =>
    rw [hd] at h2 hu
    simp only at h2
    split at h2
    · rename_i id
      obtain ⟨b, s2, h3, h4, ho2, _, _⟩ := M.bind_did h2 ho
      obtain ⟨hg, e2⟩ := get_ok h3
      split at h4
      · rename_i es ck
        obtain ⟨it, s3, h5, h6⟩ := M.bind_ok h4
        obtain ⟨rfl, rfl⟩ := pure_ok h6
        cases hx with
        | map _ r hρ =>
          obtain ⟨rb, o, q1, q2, q3, q4⟩ := hr.live id _ hg
          rw [hρ] at q1
          injection q1 with q1
          subst q1
          cases q3 with
          | map _ _ arr hl hra =>
            have hgo : (getObj r.b).run E.P w = .ok (.map arr ck) w := run_getObj_at q2 (fun _ _ _ h => by cases h)
            obtain ⟨_, hp⟩ := newObj_sim h5 (hr.of_same e2) (hf.of_same e2) (.mapIter (some r.b) ck #[] ck) 0 0 (fun ρ' hle => .miter _ id ck [] ck r (hle id r hρ))
            refine ⟨_, _, _, ?_, hp.after e2, .ptr it 0 ⟨w.heap.size, 0, 0⟩ (by simp [Ren.put])⟩
            simp only [Instr.range, Sem.run_bind, hu, hgo, Result.andThen_ok, Sem.run_pure, run_newObj_alloc]
      · exact (fail_ok h4).elim
    · exact (fail_ok h2).elim
  | _ => rw [hd] at h2; exact (fail_ok h2).elim
theorem next_sim {P : Program} {ty : TypeId} {a : AVal} (h : (next a).run s = .ok v s') (ho : OkObs s') (hr : Rel P ρ m s.heap.get w) {x : Value} (hx : R ρ m a x) :
    Out P ρ m s w s' v ((Instr.next x true ty).run P w) := by
  unfold next at h
  split at h
  · rename_i id off
    split at h
    · rename_i h0
      obtain rfl := Nat.eq_of_beq_eq_true h0
      obtain ⟨b, s1, h1, h2, ho1, _, _⟩ := M.bind_did h ho
      obtain ⟨hg, e1⟩ := get_ok h1
      unfold nextS at h2
      split at h2
      · rename_i l pos
        obtain ⟨more, s2, h3, h4, ho2, _, _⟩ := M.bind_did h2 ho
        obtain ⟨hq, e2⟩ := ask_ok h3 ho2
        cases hx with
        | ptr _ _ r hρ =>
          obtain ⟨rb, o, q1, q2, q3, q4⟩ := hr.live id _ hg
          rw [hρ] at q1
          injection q1 with q1
          subst q1
          cases q3 with
          | siter _ _ =>
            have hgo : (getObj r.b).run P w = .ok (.stringIter ⟨⟨l⟩⟩ pos) w := run_getObj_at q2 (fun _ _ _ h => by cases h)
            have hsz : (⟨⟨l⟩⟩ : ByteArray).size = l.length := rfl
            cases more with
            | true =>
              have hlt : pos < l.length := Nat.le_of_ble_eq_true hq.symm
              obtain ⟨_, s3, h5, h6⟩ := M.bind_ok h4
              obtain ⟨rfl, rfl⟩ := pure_ok h6
              obtain ⟨_, hn, hset⟩ := set_ok h5
              have es := e1.trans e2
              refine ⟨.tuple #[.bool true, goInt pos, .int .i32 (Utf8.decode ⟨⟨l⟩⟩ pos).1], World.upd w r.b (.stringIter ⟨⟨l⟩⟩ (pos + (Utf8.decode ⟨⟨l⟩⟩ pos).2)), ρ, ?_, ⟨.refl ρ, fun _ h => .inl h, fun _ _ h => h,
                hr.upd hg hρ (.siter r l _) (fun j => by rw [hset j, es.heap]), World.upd_fr _ _ _, by rw [hn, es.next]; exact Nat.le_refl _⟩, ?_⟩
              · simp only [Instr.next, Sem.run_bind, hgo, Result.andThen_ok, hsz, hlt, if_true, run_setObj_upd q2 (fun _ _ _ h => by cases h), Sem.run_pure]
              · refine .tup _ _ rfl (fun i v x hv hx => ?_)
                rcases i with _ | _ | _ | i
                · simp at hv hx; subst hv; subst hx; exact .blit _
                · simp at hv hx; subst hv; subst hx; exact .int _ _
                · simp at hv hx; subst hv; subst hx; exact .int _ _
                · simp at hv
            | false =>
              have hlt : ¬ pos < l.length := fun hh => by
                have : pos.blt l.length = true := Nat.ble_eq_true_of_le hh
                rw [this] at hq; cases hq
              obtain ⟨rfl, rfl⟩ := pure_ok h4
              refine ⟨.tuple #[.bool false], w, ρ, ?_, .of_same hr (e1.trans e2), ?_⟩
              · simp only [Instr.next, Sem.run_bind, hgo, Result.andThen_ok, hsz, hlt, if_false, Sem.run_pure]
              · refine .tup _ _ rfl (fun i v x hv hx => ?_)
                rcases i with _ | i
                · simp at hv hx; subst hv; subst hx; exact .blit _
                · simp at hv
      · exact (fail_ok h2).elim
    · exact (fail_ok h).elim
  · exact (fail_ok h).elim
end
end Go.Am
