/- The abstract machine's operations do what the model's do: append, copy, make. -/
import Derived.Test.YtmoplhbncjicbaaAmT
import Derived.Lib.AppendZerosOnto
set_option linter.unusedSimpArgs false
set_option linter.unusedVariables false
namespace Go.Am
open Go

variable {E : Env}
section
variable {ρ : Ren} {m : Mem} {s s' : St} {w : World} {v : AVal}

theorem firstCells_zero {P : Program} {a : AVal} (h : (lenOf a).run s = .ok 0 s') {x : Value} (hx : R ρ m a x) (sz : Nat) : (Builtin.firstCells sz 0 x).run P w = .ok #[] w := by
  have ld : ∀ ad : Addr, (loadCells ad (0 * sz)).run P w = .ok #[] w := fun ad => by rw [Nat.zero_mul]; rfl
  have sl : ∀ (o : Option Addr) (l c : Nat), (Builtin.firstCells sz 0 (.slice o l c)).run P w = .ok #[] w := fun o l c => by
    cases o with
    | none => rfl
    | some ad => simp only [Builtin.firstCells, ld]
  unfold lenOf at h
  split at h
  · cases hx; exact sl _ _ _
  · cases hx; exact sl _ _ _
  · cases hx <;> exact sl _ _ _
  · cases hx <;> exact sl _ _ _
  · cases hx
    simp [Builtin.firstCells, getE_take_drop]
  · exact (fail_ok h).elim
/-- The run of append where there is room. -/
theorem run_append_fit {P : Program} {w w' : World} {ts : Array TypeId} {ty t t2 : TypeId} {rest : List TypeId} (hts : ts.toList = t :: t2 :: rest) {e : TypeId} {i : TI} (hu : (underlying t).run P w = .ok (.slice e) w) {d2 : TypeDesc}
    (hu2 : (underlying t2).run P w = .ok d2 w) (hd2 : intB d2 = false) (hi : TOk P e i) {base : Option Addr} {sLen sCap n : Nat} {x : Value} (hn : (Builtin.lenOf x).run P w = .ok n w) (hroom : sLen + n ≤ sCap)
    {xs : Array Value} (hx : (Builtin.firstCells i.size n x).run P w = .ok xs w) (hst : ∀ a, base = some a → (storeCells (a.add (sLen * i.size)) xs.toList).run P w = .ok () w') (hno : base = none → w' = w) :
    (Builtin.append_ ts ty #[.slice base sLen sCap, x]).run P w = .ok (.slice base (sLen + n) sCap) w' := by
  have h0 : ts[0]? = some t := by rw [← Array.getElem?_toList, hts]; rfl
  have h1 : ts[1]? = some t2 := by rw [← Array.getElem?_toList, hts]; rfl
  cases base with
  | none =>
    obtain rfl := hno rfl
    cases d2 with
    | int k => cases hd2
    | _ => simp only [Builtin.append_, h0, h1, List.getElem?_toArray, List.getElem?_cons_zero, List.getElem?_cons_succ, Sem.run_bind, hu, Result.andThen_ok, hi.run_size, hu2, Sem.run_pure, Bool.false_eq_true, if_false, hn, hroom, Bool.not_false, if_true, hx]
  | some a =>
    have := hst a rfl
    cases d2 with
    | int k => cases hd2
    | _ => simp only [Builtin.append_, h0, h1, List.getElem?_toArray, List.getElem?_cons_zero, List.getElem?_cons_succ, Sem.run_bind, hu, Result.andThen_ok, hi.run_size, hu2, Sem.run_pure, Bool.false_eq_true, if_false, hn, hroom, Bool.not_false, if_true, hx, this]

/-- A block goes on under another name. -/
theorem Rel.rename {P : Program} {ρ : Ren} {m : Mem} {h h' : Nat → Option Blk} {w : World} (hr : Rel P ρ m h w) {id id' : Nat} {b : Blk} {r : RB} (hg : h id = some b) (hρ : ρ id = some r) (hn : ρ id' = none)
    (hh : ∀ j, h' j = if j = id' then some b else if j = id then none else h j) : Rel P (ρ.put id' r) m h' w where
  live := fun j c hj => by
    rw [hh j] at hj
    by_cases e : j = id'
    · subst e
      simp only [if_true, Option.some.injEq] at hj
      subst hj
      obtain ⟨rb, o, q1, q2, q3, q4⟩ := hr.live id b hg
      rw [hρ] at q1
      injection q1 with q1
      subst q1
      exact ⟨r, o, by simp [Ren.put], q2, q3.mono (RenLe.put hn) (.refl m), q4⟩
    · by_cases e2 : j = id
      · simp [e, e2] at hj
        obtain ⟨h1, h2⟩ := hj
        exact absurd e2 (fun _ => e (e2.trans h1))
      · simp only [e, e2, if_false] at hj
        obtain ⟨rb, o, q1, q2, q3, q4⟩ := hr.live j c hj
        exact ⟨rb, o, RenLe.put hn _ _ q1, q2, q3.mono (RenLe.put hn) (.refl m), q4⟩
  inj := fun i j b1 b2 r1 r2 h1 h2 h3 h4 h5 => by
    rw [hh] at h1 h2
    unfold Ren.put at h3 h4
    by_cases e1 : i = id'
    · by_cases e2 : j = id'
      · rw [e1, e2]
      · by_cases e3 : j = id
        · simp only [e2, e3, if_false, if_true] at h2
          split at h2
          · exact absurd (e3.trans (by assumption)) e2
          · cases h2
        · simp only [e1, e2, e3, if_false, if_true, Option.some.injEq] at h2 h3 h4
          subst h3
          exact absurd (hr.inj id j b b2 r r2 hg h2 hρ h4 h5).symm e3
    · by_cases e3 : i = id
      · simp only [e1, e3, if_false, if_true] at h1
        split at h1
        · exact absurd (e3.trans (by assumption)) e1
        · cases h1
      · by_cases e2 : j = id'
        · simp only [e1, e2, e3, if_false, if_true, Option.some.injEq] at h1 h3 h4
          subst h4
          exact absurd (hr.inj i id b1 b r1 r h1 hg h3 hρ h5) e3
        · by_cases e4 : j = id
          · simp only [e2, e4, if_false, if_true] at h2
            split at h2
            · exact absurd (e4.trans (by assumption)) e2
            · cases h2
          · simp only [e1, e2, e3, e4, if_false] at h1 h2 h3 h4
            exact hr.inj i j b1 b2 r1 r2 h1 h2 h3 h4 h5
  mem := hr.mem

theorem grow_sim {ts : Array TypeId} {ty t t2 : TypeId} {rest : List TypeId} (hts : ts.toList = t :: t2 :: rest) {e : TypeId} {i : TI} (hu : (underlying t).run E.P w = .ok (.slice e) w) {d2 : TypeDesc}
    (hu2 : (underlying t2).run E.P w = .ok d2 w) (hd2 : intB d2 = false) (hi : TOk E.P e i) {base : Option Addr} {sLen sCap n : Nat} {x : Value} (hn : (Builtin.lenOf x).run E.P w = .ok n w) (hroom : ¬ sLen + n ≤ sCap)
    {ys xs : List AVal} {ya xa : Array Value} (hy : (Builtin.firstCells i.size sLen (.slice base sLen sCap)).run E.P { w with drawn := w.drawn + 1 } = .ok ya { w with drawn := w.drawn + 1 })
    (hx : (Builtin.firstCells i.size n x).run E.P { w with drawn := w.drawn + 1 } = .ok xa { w with drawn := w.drawn + 1 }) (ly : RL ρ m ys ya) (lx : RL ρ m xs xa) (hly : ys.length = sLen * i.size) (hlx : xs.length = n * i.size)
    {need : Nat} (hne : need = sLen + n) (h : (grown e i need (ys ++ xs)).run s = .ok v s') (ho : OkObs s') (hr : Rel E.P ρ m s.heap.get w) (hf : Fresh ρ s s') :
    Out E.P ρ m s w s' v ((Builtin.append_ ts ty #[.slice base sLen sCap, x]).run E.P w) := by
  subst hne
  have hlen : (ys ++ xs).length = (sLen + n) * i.size := by rw [List.length_append, hly, hlx, Nat.add_mul]
  obtain ⟨b1, b2, _⟩ := grown_sim h ho hr.drew hf hi (ly.append lx) hlen (sLen + n) (Nat.le_refl _) (Array.replicate i.size Go.undef) (by simp)
  obtain ⟨newCap, z, k1, k2, k3⟩ := run_append_grow (ty := ty) hts hu hu2 hd2 hi hn hroom b1 b2 hy hx
  have hz : z.cells.size = i.size := by rw [← (hi.zcells (ρ := ρ) (m := m) k2).len, hi.zsize]
  obtain ⟨_, _, ρ', g1, g2⟩ := grown_sim h ho hr.drew hf hi (ly.append lx) hlen newCap k1 z.cells hz
  exact ⟨_, _, ρ', k3, g1.drew, g2⟩

theorem zeroCells_sim {zs : List AVal} {zx : Array Value} (hz : RL ρ m zs zx) (n : Nat) : RL ρ m (reps zs n) (Builtin.zeroCells zx n) := by
  have := reps_sim hz n
  exact this
/-- append(s, make(.., k)..) where there is no room. -/
theorem appendZ_sim {ts : Array TypeId} {ty t t2 : TypeId} (hts : ts.toList = [t, t2]) {i2 : TI} (hi2 : TOk E.P t2 i2) (hd2 : intB i2.desc = true) {a b : AVal} (h : (intK (appendZ E t a) b).run s = .ok v s') (ho : OkObs s')
    (hr : Rel E.P ρ m s.heap.get w) (hf : Fresh ρ s s') {x y : Value} (hx : R ρ m a x) (hy : R ρ m b y) : Out E.P ρ m s w s' v ((Builtin.append_ ts ty #[x, y]).run E.P w) := by
  obtain ⟨kn, hkn⟩ : ∃ kn, i2.desc = .int kn := by
    cases hd : i2.desc with
    | int k => exact ⟨k, rfl⟩
    | _ => rw [hd] at hd2; cases hd2
  obtain rfl : ts = #[t, t2] := by rw [← Array.toArray_toList (xs := ts), hts]
  unfold intK at h
  split at h
  · rename_i kq kk
    obtain rfl := hy.int_inv
    unfold appendZ at h
    obtain ⟨d, s1, h1, h2⟩ := M.bind_ok h
    obtain ⟨⟨i0, hi0, rfl⟩, rfl⟩ := und_ok h1
    cases hd : i0.desc with
    | slice e =>
      rw [hd] at h2
      obtain ⟨i, s2, h3, h4⟩ := M.bind_ok h2
      obtain ⟨hi, rfl⟩ := ti_ok h3
      cases a with
      | sl id off len cap sz =>
        cases cap with
        | some mm =>
          obtain ⟨hsz, h5⟩ := sameSz_ok h4
          obtain ⟨_, s3, h6, h7, ho3, _, hnx3⟩ := M.bind_did h5 ho
          obtain ⟨hb, e3⟩ := ob_ok h6 ho3
          obtain ⟨g0, g1, g2, g3⟩ := of_decide_eq_true hb
          obtain ⟨ys, s4, h8, h9, ho4, _, hnx4⟩ := M.bind_did h7 ho
          have hr3 := hr.of_same e3
          obtain ⟨ya, q1, q2, q3, e4⟩ := sliceCells_sim h8 ho4 hr3.drew hx
          have e34 := e3.trans e4
          have hr4 := hr.of_same e34
          have hf4 := hf.of_same e34
          obtain ⟨j, z, hj, hjs, hjb, hjz, hz⟩ := hi.info
          have hzc := hi.zcells (ρ := ρ) (m := m) hz
          have hzs : z.cells.size = i.size := by rw [← hzc.len, hi.zsize]
          have hxl : RL ρ m (ys ++ reps i.zero.cells kk.toNat) (ya ++ Builtin.zeroCells z.cells kk.toNat) := q2.append (zeroCells_sim hzc _)
          have hlen : (ys ++ reps i.zero.cells kk.toNat).length = (len + kk.toNat) * i.size := by
            rw [List.length_append, q3, reps_length, hi.zsize, Nat.add_mul]
          obtain ⟨base, hxe⟩ : ∃ base : Option Addr, x = .slice base len mm := by
            cases hx with
            | slx _ _ _ c _ r hρ hl => exact ⟨_, rfl⟩
            | sl0 _ _ _ _ ad hc hn =>
              have := hc mm rfl
              subst this
              exact ⟨_, rfl⟩
          subst hxe
          obtain ⟨b1, b2, _⟩ := grown_sim h9 ho hr4.drew hf4 hi hxl hlen (len + kk.toNat) (Nat.le_refl _) (Array.replicate i.size Go.undef) (by simp)
          have hk : kk = ((kk.toNat : Nat) : Int) := by omega
          have hnx := nextslicecap_le g1
          have hb : i.bytes * 1 ≤ i.bytes * 1 := Nat.le_refl _
          have run := Lib.run_append_grow_zeros w t t2 ty e j z kq kn (by rw [hi0.und, hd]) (by rw [hi2.und, hkn]) hj hjz base len mm ya.toList (by rw [hjs]; simpa using q1) kk.toNat (by omega) (by omega) g1 (by omega)
            (by
              rw [hjb]
              refine Nat.le_trans (Nat.mul_le_mul_right _ ?_) b1
              omega)
            (by
              rw [hjb]
              exact Nat.le_trans (Nat.mul_le_mul_right _ hnx) b1)
          rw [← hk] at run
          have hcap : len + kk.toNat ≤ grownCap w (len + kk.toNat) mm e := grownCap_ge w _ _ _
          obtain ⟨_, _, ρ', p1, p2⟩ := grown_sim h9 ho hr4.drew hf4 hi hxl hlen _ hcap z.cells hzs
          exact ⟨_, _, ρ', run, (p1.drew).after e34, p2⟩
        | none => exact (fail_ok h4).elim
      | _ => exact (fail_ok h4).elim
    | _ => rw [hd] at h2; exact (fail_ok h2).elim
  · exact (fail_ok h).elim

theorem append_sim {ts : Array TypeId} {ty t t2 : TypeId} {rest : List TypeId} (hts : ts.toList = t :: t2 :: rest) {i2 : TI} (hi2 : TOk E.P t2 i2) (hd2 : intB i2.desc = false) {a b : AVal} (h : (append E t a b).run s = .ok v s') (ho : OkObs s')
    (hr : Rel E.P ρ m s.heap.get w) (hf : Fresh ρ s s') {x y : Value} (hx : R ρ m a x) (hy : R ρ m b y) : Out E.P ρ m s w s' v ((Builtin.append_ ts ty #[x, y]).run E.P w) := by
  obtain ⟨d, s1, h1, h2⟩ := M.bind_ok h
  obtain ⟨⟨i0, hi0, rfl⟩, rfl⟩ := und_ok h1
  have hu := hi0.run_und (w := w)
  have hu2 := hi2.run_und (w := w)
  cases hd : i0.desc with
  | slice e =>
    rw [hd] at h2 hu
    obtain ⟨i, s2, h3, h4⟩ := M.bind_ok h2
    obtain ⟨hi, rfl⟩ := ti_ok h3
    obtain ⟨n, s3, h5, h6⟩ := M.bind_ok h4
    obtain ⟨rfl, hn⟩ := lenOf_sim (P := E.P) (w := w) h5 hy
    obtain ⟨nothing, s4, h7, h8, ho4, _, hnx⟩ := M.bind_did h6 ho
    obtain ⟨hq, e4⟩ := ask_ok h7 ho4
    have hr4 := hr.of_same e4
    have hf4 := hf.of_same e4
    cases nothing with
    | true =>
      have hn0 : n = 0 := Nat.eq_of_beq_eq_true hq.symm
      subst hn0
      have hfc := firstCells_zero (P := E.P) (w := w) h5 hy i.size
      have fin : ∀ (base : Option Addr) (l c : Nat), l ≤ c → (Builtin.append_ ts ty #[.slice base l c, y]).run E.P w = .ok (.slice base l c) w := fun base l c hlc =>
        run_append_fit hts hu hu2 hd2 hi hn (by omega) hfc (fun a _ => rfl) (fun _ => rfl)
      try simp only at h8
      split at h8
      · obtain ⟨rfl, rfl⟩ := pure_ok h8
        cases hx with
        | nils => rw [fin none 0 0 (Nat.le_refl _)]; exact .same hr e4 .nils
      · obtain ⟨rfl, rfl⟩ := pure_ok h8
        cases hx with
        | emp ad => rw [fin ad 0 0 (Nat.le_refl _)]; exact .same hr e4 (.emp _)
      · obtain ⟨rfl, rfl⟩ := pure_ok h8
        cases hx with
        | slx _ _ _ c _ r hρ hl => rw [fin _ _ _ hl]; exact .same hr e4 (.slx _ _ _ _ _ r hρ hl)
        | slw _ _ _ c _ r hρ hl hs hc => rw [fin _ _ _ hl]; exact .same hr e4 (.slw _ _ _ _ _ r hρ hl hs hc)
        | sl0 _ _ _ _ ad hc hn' => rw [fin _ _ _ (Nat.le_refl _)]; exact .same hr e4 (.sl0 _ _ _ _ _ hc hn')
      · obtain ⟨rfl, rfl⟩ := pure_ok h8
        cases hx with
        | isl _ _ _ _ b o c g' hg hrr hl => rw [fin _ _ _ hl]; exact .same hr e4 (.isl _ _ _ _ b o c g' hg hrr hl)
        | isl0 _ _ _ c ad => rw [fin _ _ _ (Nat.zero_le _)]; exact .same hr e4 (.isl0 _ _ _ _ _)
      · exact (fail_ok h8).elim
    | false =>
      have hn0 : n ≠ 0 := by rintro rfl; cases hq
      obtain ⟨xs, s5, h9, h10, ho5, _, _⟩ := M.bind_did h8 ho
      obtain ⟨xa, k1, k2, k3, e5⟩ := sliceCells_sim h9 ho5 hr4 hy
      obtain ⟨xa1, q1, q2, q3, _⟩ := sliceCells_sim h9 ho5 hr4.drew hy
      have e45 := e4.trans e5
      have hr5 := hr.of_same e45
      have hf5 := hf.of_same e45
      have fc0 : ∀ (o : Option Addr) (l c : Nat) (w : World), (Builtin.firstCells i.size 0 (.slice o l c)).run E.P w = .ok #[] w := by
        intro o l c w
        cases o with
        | none => rfl
        | some ad => simp only [Builtin.firstCells, Nat.zero_mul]; rfl
      try simp only at h10
      split at h10
      · cases hx with
        | nils =>
          obtain ⟨z, w', ρ', g1, g2, g3⟩ := grow_sim (ys := []) (base := none) (sLen := 0) (sCap := 0) (ty := ty) hts hu hu2 hd2 hi hn (by omega) (fc0 _ _ _ _) q1 .nil q2 (by simp) q3 (by omega) h10 ho hr5 hf5
          exact ⟨z, w', ρ', g1, g2.after e45, g3⟩
      · cases hx with
        | emp ad =>
          obtain ⟨z, w', ρ', g1, g2, g3⟩ := grow_sim (ys := []) (base := ad) (sLen := 0) (sCap := 0) (ty := ty) hts hu hu2 hd2 hi hn (by omega) (fc0 _ _ _ _) q1 .nil q2 (by simp) q3 (by omega) h10 ho hr5 hf5
          exact ⟨z, w', ρ', g1, g2.after e45, g3⟩
      · rename_i id off len cap sz
        obtain ⟨hsz, h11⟩ := sameSz_ok h10
        obtain ⟨bb, s6, h12, h13, ho6, _, _⟩ := M.bind_did h11 ho
        obtain ⟨hg, e6⟩ := get_ok h12
        obtain ⟨c, t', rfl, h14⟩ := row_ok h13
        have e46 := e45.trans e6
        cases cap with
        | some mm =>
          obtain ⟨fits, s7, h15, h16, ho7, _, _⟩ := M.bind_did h14 ho
          obtain ⟨hq2, e7⟩ := ask_ok h15 ho7
          have e47 := e46.trans e7
          have hr7 := hr.of_same e47
          have hf7 := hf.of_same e47
          cases fits with
          | true =>
            have hle : len + n ≤ mm := Nat.le_of_ble_eq_true hq2.symm
            obtain ⟨_, s8, h17, h18⟩ := M.bind_ok h16
            obtain ⟨rfl, rfl⟩ := pure_ok h18
            cases hx with
            | slx _ _ _ _ _ r hρ hl =>
              obtain ⟨ad, w', g1, g2, g3⟩ := writeCells_sim h17 ho hr7 (.ptr id (off + len * i.size) r hρ) (xs := xa.toList) (by simpa using k2.len) (fun j p q hp hq => k2.at_ j p q hp (by simpa using hq))
              injection g1 with g1
              injection g1 with g1
              subst g1
              refine ⟨_, w', ρ, run_append_fit hts hu hu2 hd2 hi hn hle k1 (fun a ha => ?_) (fun h => by cases h), g3.after e47, .slx _ _ _ _ _ r hρ hle⟩
              injection ha with ha
              subst ha
              rw [add_plain]; exact g2
            | sl0 _ _ _ _ ad hc hn' =>
              have := hc mm rfl
              omega
          | false =>
            have hle : ¬ len + n ≤ mm := fun x => by
              have : (len + n).ble mm = true := Nat.ble_eq_true_of_le x
              rw [this] at hq2; cases hq2
            obtain ⟨ys, s8, h17, h18, ho8, _, _⟩ := M.bind_did h16 ho
            obtain ⟨ya, p1, p2, p3, e8⟩ := sliceCells_sim h17 ho8 hr7.drew hx
            have e48 := e47.trans e8
            cases hx with
            | slx _ _ _ _ _ r hρ hl =>
              obtain ⟨z, w', ρ', g1, g2, g3⟩ := grow_sim (ty := ty) hts hu hu2 hd2 hi hn hle p1 q1 p2 q2 p3 q3 rfl h18 ho (hr.of_same e48) (hf.of_same e48)
              exact ⟨z, w', ρ', g1, g2.after e48, g3⟩
            | sl0 _ _ _ _ ad hc hn' =>
              obtain rfl := hc mm rfl
              obtain ⟨z, w', ρ', g1, g2, g3⟩ := grow_sim (ty := ty) hts hu hu2 hd2 hi hn hle p1 q1 p2 q2 p3 q3 rfl h18 ho (hr.of_same e48) (hf.of_same e48)
              exact ⟨z, w', ρ', g1, g2.after e48, g3⟩
        | none =>
          obtain ⟨fits, s7, h15, h16, ho7, _, _⟩ := M.bind_did h14 ho
          obtain ⟨hq2, e7⟩ := ask_ok h15 ho7
          have e47 := e46.trans e7
          have hr7 := hr.of_same e47
          have hf7 := hf.of_same e47
          have hg7 : s7.heap.get id = some (.row c t') := by rw [e7.heap, e6.heap]; exact hg
          cases fits with
          | true =>
            have hle : off + (len + n) * i.size ≤ c.size := Nat.le_of_ble_eq_true hq2.symm
            obtain ⟨_, s8, h17, h18, ho8, _, _⟩ := M.bind_did h16 ho
            obtain ⟨hpos, e8⟩ := ob_ok h17 ho8
            have hpos' : 0 < i.size := Nat.le_of_ble_eq_true hpos
            have e48 := e47.trans e8
            have hr8 := hr.of_same e48
            obtain ⟨_, s9, h19, h20⟩ := M.bind_ok h18
            obtain ⟨rfl, rfl⟩ := pure_ok h20
            cases hx with
            | slw _ _ _ cc _ r hρ hl hs hc =>
              obtain ⟨arr, fr, _, _, hn', hcs, _⟩ := hr7.row hg7 hρ
              have hfit : len + n ≤ cc := by
                have : (len + n) * i.size ≤ cc * i.size := by rw [← hsz]; rw [← hsz] at hle; omega
                exact Nat.le_of_mul_le_mul_right this hpos'
              obtain ⟨ad, w', g1, g2, g3⟩ := writeCells_sim h19 ho hr8 (.ptr id (off + len * i.size) r hρ) (xs := xa.toList) (by simpa using k2.len) (fun j p q hp hq => k2.at_ j p q hp (by simpa using hq))
              injection g1 with g1
              injection g1 with g1
              subst g1
              refine ⟨_, w', ρ, run_append_fit hts hu hu2 hd2 hi hn hfit k1 (fun a ha => ?_) (fun h => by cases h), g3.after e48, .slw _ _ _ _ _ r hρ hfit hs hc⟩
              injection ha with ha
              subst ha
              rw [add_plain]; exact g2
            | sl0 _ _ _ _ ad hc hn' =>
              obtain ⟨r, hρ, hro⟩ := hn' rfl
              obtain ⟨arr, fr, _, _, hn', hcs, _⟩ := hr7.row hg7 hρ
              have : 0 < (0 + n) * i.size := Nat.mul_pos (by omega) hpos'
              omega
          | false =>
            have hle : ¬ off + (len + n) * i.size ≤ c.size := fun x => by
              have : (off + (len + n) * i.size).ble c.size = true := Nat.ble_eq_true_of_le x
              rw [this] at hq2; cases hq2
            try simp only at h16
            split at h16
            · rename_i hc0
              simp only [Bool.and_eq_true] at hc0
              have hoff : off = 0 := Nat.eq_of_beq_eq_true hc0.1.1
              have hte : t' = e := Nat.eq_of_beq_eq_true hc0.1.2
              subst hoff
              subst hte
              obtain ⟨ys, s8, h17, h18, ho8, _, _⟩ := M.bind_did h16 ho
              obtain ⟨ya, p1, p2, p3, e8⟩ := sliceCells_sim h17 ho8 hr7.drew hx
              obtain ⟨ya0, p1', p2', p3', _⟩ := sliceCells_sim h17 ho8 hr7 hx
              have e48 := e47.trans e8
              obtain ⟨_, s9, h19, h20⟩ := M.bind_ok h18
              obtain ⟨_, kn, kh⟩ := kill_ok h19
              have hr9 : Rel E.P ρ m s9.heap.get w := (hr.of_same e48).kill kh
              have hf9 : Fresh ρ s9 s' := fun id hid => (hf.of_same e48) id ⟨by have := hid.1; omega, hid.2⟩
              have toS : ∀ {ρ' : Ren} {w' : World}, Post E.P ρ m s9 w ρ' m s' w' → Post E.P ρ m _ w ρ' m s' w' := fun g2 =>
                (Post.mk g2.ren (fun id hid => (g2.new id hid).imp_right fun x => ⟨by have := x.1; omega, x.2⟩) g2.mem g2.rel g2.fr (by have := g2.next; omega) : Post E.P ρ m s8 w _ m s' _).after e48
              cases hx with
              | slw _ _ _ cc _ r hρ hl hs hc =>
                by_cases hfit : len + n ≤ cc
                · -- there is room after all
                  obtain ⟨_, s10, h21, h22, ho10, _, _⟩ := M.bind_did h20 ho
                  obtain ⟨_, e10⟩ := ob_ok h21 ho10
                  obtain ⟨id', s11, h23, h24⟩ := M.bind_ok h22
                  obtain ⟨rfl, rfl⟩ := pure_ok h24
                  obtain ⟨n1, n2, n3⟩ := new_ok h23
                  obtain ⟨arr, fr, ha, hes, han, hcs, hrr, hfr, hm⟩ := hr7.row hg7 hρ
                  have hone : ∀ y ∈ xa.toList, y.oneCell' = true := by
                    intro y hy
                    obtain ⟨j, hj⟩ := List.getElem?_of_mem hy
                    have hj' : xa[j]? = some y := by simpa using hj
                    have hlt := (Array.getElem?_eq_some_iff.1 hj').1
                    have hv : xs[j]? = some (xs[j]'(by rw [k2.len]; exact hlt)) := List.getElem?_eq_getElem _
                    exact (k2.at_ j _ _ hv hj').oneCell (List.all_eq_true.1 hc0.2 _ (List.getElem_mem _))
                  have hsz' : len * i.size + 0 + xa.toList.length ≤ arr.size := by
                    have h1 : xa.size = n * i.size := by rw [← k2.len]; exact k3
                    have h2 : (len + n) * i.size ≤ cc * sz := by rw [hsz]; exact Nat.mul_le_mul_right _ hfit
                    rw [Nat.add_mul] at h2
                    simp only [Array.length_toList]; omega
                  obtain ⟨arr', g1, g2, g3⟩ := run_storeCells E.P r.b (len * i.size) t' fr xa.toList 0 w arr ha hfr.out hsz' hone
                  have hys : ys = c.sub 0 (len * i.size) := by
                    obtain ⟨_, u1⟩ := sameSz_ok h17
                    obtain ⟨b2, u2, u3, u4⟩ := M.bind_ok u1
                    obtain ⟨u5, u6⟩ := get_ok u3
                    obtain ⟨c2, t2', u7, u8⟩ := row_ok u4
                    rw [hg7] at u5
                    injection u5 with u5
                    rw [u7] at u5
                    injection u5 with u5 _
                    obtain ⟨_, u9, u10, u11⟩ := M.bind_ok u8
                    obtain ⟨_, u12, u13, u14⟩ := M.bind_ok u11
                    obtain ⟨u15, _⟩ := pure_ok u14
                    rw [u15, u5]
                  have hcl : len * i.size ≤ c.size := by
                    obtain ⟨_, u1⟩ := sameSz_ok h17
                    obtain ⟨b2, u2, u3, u4, uo2, _, _⟩ := M.bind_did u1 ho8
                    obtain ⟨u5, u6⟩ := get_ok u3
                    obtain ⟨c2, t2', u7, u8⟩ := row_ok u4
                    rw [hg7] at u5
                    injection u5 with u5
                    rw [u7] at u5
                    injection u5 with u5 _
                    obtain ⟨_, u9, u10, u11, uo3, _, _⟩ := M.bind_did u8 ho8
                    obtain ⟨_, u12, u13, u14, uo4, _, _⟩ := M.bind_did u11 ho8
                    obtain ⟨u15, _⟩ := ob_ok u13 uo4
                    have := Nat.le_of_ble_eq_true u15
                    rw [← u5] at this
                    omega
                  have hfresh : ρ id' = none := hf9 id' ⟨by have := e10.next; omega, by have := e10.next; omega⟩
                  have hbr : BR E.P ρ m r (.row (.l (ys ++ xs)) t') (.cells arr' t' fr) := by
                    refine .row r (.l (ys ++ xs)) t' arr' fr hes (by rw [g2]; exact han) ?_ ?_ (by rw [g2]; exact hfr)
                    · rw [g2, han, ← hc, ← hs]
                      simp only [Cont.size, List.length_append, p3', q3]
                      rw [← Nat.add_mul]
                      have : (len + n) * i.size ≤ cc * r.s := by rw [hs, hsz]; exact Nat.mul_le_mul_right _ hfit
                      omega
                    · intro j z hj hz
                      simp only [Cont.size, List.length_append, p3', q3] at hj
                      simp only [Cont.at, nth_get]
                      rw [g3 j] at hz
                      by_cases c1 : j < len * i.size
                      · have c2 : ¬ (len * i.size + 0 ≤ j ∧ j < len * i.size + 0 + xa.toList.length) := by omega
                        rw [if_neg c2] at hz
                        rw [List.getElem?_append_left (by rw [p3']; exact c1), hys, Cont.sub_get (by omega) c1, Nat.zero_add]
                        exact hrr j z (by omega) hz
                      · have hxl : xa.toList.length = n * i.size := by
                          have : xa.size = n * i.size := by rw [← k2.len]; exact k3
                          simpa using this
                        have c2 : len * i.size + 0 ≤ j ∧ j < len * i.size + 0 + xa.toList.length := by omega
                        rw [if_pos c2] at hz
                        rw [List.getElem?_append_right (by rw [p3']; omega), p3']
                        have hv : xs[j - len * i.size]? = some (xs[j - len * i.size]'(by rw [k3]; omega)) := List.getElem?_eq_getElem _
                        rw [hv]
                        exact k2.at_ _ _ _ hv (by simpa using hz)
                  have hr8 := hr.of_same e48
                  have hg8 : s8.heap.get id = some (.row c t') := by rw [e8.heap]; exact hg7
                  have hu1 := hr8.upd (h' := fun j => if j = id then some (.row (.l (ys ++ xs)) t') else s8.heap.get j) hg8 hρ hbr (fun j => rfl)
                  have hu2' := hu1.rename (id := id) (id' := id') (h' := s'.heap.get) (b := .row (.l (ys ++ xs)) t') (by simp) hρ hfresh (fun j => by
                    rw [n3 j, e10.heap, kh j]
                    by_cases c1 : j = id'
                    · simp [c1]
                    · by_cases c2 : j = id
                      · simp [c1, c2]
                      · simp [c1, c2])
                  refine ⟨_, _, ρ.put id' r, run_append_fit hts hu hu2 hd2 hi hn hfit k1 (w' := World.upd w r.b (.cells arr' t' fr)) (fun a ha => ?_) (fun h => by cases h), toS ⟨RenLe.put hfresh, fun j hj => ?_, fun _ _ h => h, hu2', World.upd_fr _ _ _, by have := e10.next; omega⟩, .slw id' 0 _ _ _ r (by simp [Ren.put]) hfit (hs.trans hsz) (by rw [← hsz]; exact hc)⟩
                  · injection ha with ha
                    subst ha
                    rw [add_plain, Nat.zero_add]; exact g1
                  · unfold Ren.put at hj
                    by_cases c1 : j = id'
                    · exact .inr ⟨by have := e10.next; omega, by have := e10.next; omega⟩
                    · simp only [c1, if_false] at hj
                      exact .inl hj
                · obtain ⟨z, w', ρ', g1, g2, g3⟩ := grow_sim (ty := ty) hts hu hu2 hd2 hi hn hfit p1 q1 p2 q2 p3 q3 rfl h20 ho hr9 hf9
                  exact ⟨z, w', ρ', g1, toS g2, g3⟩
              | sl0 _ _ _ _ ad hc hn' =>
                obtain ⟨z, w', ρ', g1, g2, g3⟩ := grow_sim (ty := ty) hts hu hu2 hd2 hi hn (by omega) p1 q1 p2 q2 p3 q3 rfl h20 ho hr9 hf9
                exact ⟨z, w', ρ', g1, toS g2, g3⟩
            · exact (fail_ok h16).elim
      · exact (fail_ok h10).elim
  | _ => rw [hd] at h2; exact (fail_ok h2).elim
end
end Go.Am
