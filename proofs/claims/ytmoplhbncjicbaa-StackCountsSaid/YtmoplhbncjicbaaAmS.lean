/- The abstract machine's operations do what the model's do: slices. -/
import Derived.Test.YtmoplhbncjicbaaAmQ
set_option linter.unusedSimpArgs false
set_option linter.unusedVariables false
namespace Go.Am
open Go

variable {E : Env}
section
variable {ρ : Ren} {m : Mem} {s s' : St} {w : World} {v : AVal}

/-- An optional bound and its value. -/
inductive RO (ρ : Ren) (m : Mem) : Option AVal → Option Value → Prop
  | none : RO ρ m none none
  | some (v : AVal) (x : Value) (h : R ρ m v x) : RO ρ m (some v) (some x)
theorem bound_ok {o : Option AVal} {d most n : Nat} (h : (bound o d most).run s = .ok n s') (ho : OkObs s') {x : Option Value} (hx : RO ρ m o x) :
    Same s s' ∧ ((o = none ∧ x = none ∧ n = d) ∨ ∃ k i, o = some (.int k i) ∧ x = some (.int k i) ∧ 0 ≤ i ∧ i ≤ (most : Int) ∧ n = i.toNat) := by
  unfold bound at h
  cases hx with
  | none =>
    obtain ⟨rfl, rfl⟩ := pure_ok h
    exact ⟨.refl _, .inl ⟨rfl, rfl, rfl⟩⟩
  | some v x hv =>
    obtain ⟨q, i, rfl, h2⟩ := int_ok h
    obtain rfl := hv.int_inv
    obtain ⟨_, s1, h3, h4, ho1, _, _⟩ := M.bind_did h2 ho
    obtain ⟨rfl, rfl⟩ := pure_ok h4
    obtain ⟨h5, h6⟩ := ob_ok h3 ho1
    have h5' := of_decide_eq_true h5
    exact ⟨h6, .inr ⟨q, i, rfl, rfl, h5'.1, h5'.2, rfl⟩⟩
theorem run_sliceBound {P : Program} {k : IntKind} {i : Int} {y : Nat} (c : BoundsCode) (h0 : 0 ≤ i) (h1 : i ≤ (y : Int)) : (Instr.sliceBound (.int k i) y c).run P w = .ok i.toNat w := by
  simp only [Instr.sliceBound, asIntOf, Sem.run_bind, Sem.run_pure, Result.andThen_ok, h0, h1, and_self, if_true]
/-- The bounds of x[lo:hi], the model's: of those that the machine took, at a capacity that is no less. -/
theorem run_bounds2 {P : Program} {isSl : Bool} {len cap most : Nat} {lo hi : Option AVal} {lo' hi' : Option Value} {l h : Nat} {s1 s2 : St} (k1 : (bound hi len most).run s = .ok h s1) (k2 : (bound lo 0 h).run s1 = .ok l s2) (ho : OkObs s2)
    (hl : RO ρ m lo lo') (hh : RO ρ m hi hi') (hlen : len ≤ most) (hcap : most ≤ cap) :
    (Instr.sliceBounds isSl len cap lo' hi' none).run P w = .ok (l, h, cap) w ∧ l ≤ h ∧ h ≤ most ∧ Same s s2 := by
  obtain ⟨_, _, o, d⟩ := (bound lo 0 h).loc _ _ _ k2
  obtain ⟨e1, c1⟩ := bound_ok k1 (ho.of d.obs) hh
  obtain ⟨e2, c2⟩ := bound_ok k2 ho hl
  have hhm : h ≤ most := by
    rcases c1 with ⟨_, _, rfl⟩ | ⟨k, i, _, _, a, b, rfl⟩ <;> omega
  have hlh : l ≤ h := by
    rcases c2 with ⟨_, _, rfl⟩ | ⟨k, i, _, _, a, b, rfl⟩ <;> omega
  refine ⟨?_, hlh, hhm, e1.trans e2⟩
  rcases c1 with ⟨_, rfl, rfl⟩ | ⟨k, i, _, rfl, a, b, rfl⟩
  · rcases c2 with ⟨_, rfl, rfl⟩ | ⟨k2, i2, _, rfl, a2, b2, rfl⟩
    · rfl
    · simp only [Instr.sliceBounds, Sem.run_bind, Sem.run_pure, Result.andThen_ok, run_sliceBound _ a2 b2, Option.isSome, Bool.false_eq_true, if_false]
  · have b' : i ≤ (cap : Int) := by omega
    rcases c2 with ⟨_, rfl, rfl⟩ | ⟨k2, i2, _, rfl, a2, b2, rfl⟩
    · simp only [Instr.sliceBounds, Sem.run_bind, Sem.run_pure, Result.andThen_ok, run_sliceBound _ a b']
    · simp only [Instr.sliceBounds, Sem.run_bind, Sem.run_pure, Result.andThen_ok, run_sliceBound _ a b', run_sliceBound _ a2 b2, Option.isSome, Bool.false_eq_true, if_false]
theorem run_bounds3 {P : Program} {len cap most d : Nat} {lo hi mx : Option AVal} {lo' hi' mx' : Option Value} {l h q : Nat} {s1 s2 s3 : St} (k0 : (bound mx d most).run s = .ok q s1) (k1 : (bound hi len q).run s1 = .ok h s2) (k2 : (bound lo 0 h).run s2 = .ok l s3) (ho : OkObs s3)
    (hl : RO ρ m lo lo') (hh : RO ρ m hi hi') (hm : RO ρ m mx mx') (hi0 : hi ≠ none) (mx0 : mx ≠ none) (hcap : most ≤ cap) :
    (Instr.sliceBounds true len cap lo' hi' mx').run P w = .ok (l, h, q) w ∧ l ≤ h ∧ h ≤ q ∧ q ≤ most ∧ Same s s3 := by
  obtain ⟨_, _, o2, d2⟩ := (bound lo 0 h).loc _ _ _ k2
  obtain ⟨_, _, o1, d1⟩ := (bound hi len q).loc _ _ _ k1
  have ho2 := ho.of d2.obs
  obtain ⟨e0, c0⟩ := bound_ok k0 (ho2.of d1.obs) hm
  obtain ⟨e1, c1⟩ := bound_ok k1 ho2 hh
  obtain ⟨e2, c2⟩ := bound_ok k2 ho hl
  rcases c0 with ⟨x, _, _⟩ | ⟨k3, i3, _, rfl, a3, b3, rfl⟩
  · exact absurd x mx0
  rcases c1 with ⟨x, _, _⟩ | ⟨k, i, _, rfl, a, b, rfl⟩
  · exact absurd x hi0
  have b3' : i3 ≤ (cap : Int) := by omega
  have hlh : l ≤ i.toNat := by
    rcases c2 with ⟨_, _, rfl⟩ | ⟨k, i, _, _, a, b, rfl⟩ <;> omega
  have g1 : i.toNat ≤ i3.toNat := Int.toNat_le.mpr b
  have g2 : i3.toNat ≤ most := Int.toNat_le.mpr b3
  refine ⟨?_, hlh, g1, g2, (e0.trans e1).trans e2⟩
  rcases c2 with ⟨_, rfl, rfl⟩ | ⟨k2, i2, _, rfl, a2, b2, rfl⟩
  · simp only [Instr.sliceBounds, Sem.run_bind, Sem.run_pure, Result.andThen_ok, run_sliceBound _ a3 b3', run_sliceBound _ a b, if_true]
  · simp only [Instr.sliceBounds, Sem.run_bind, Sem.run_pure, Result.andThen_ok, run_sliceBound _ a3 b3', run_sliceBound _ a b, run_sliceBound _ a2 b2, Option.isSome, if_true]

theorem bind2 {α β γ : Type} {a : M α} {f : α → M β} {g : α → β → M γ} {c : γ} (h : (a.bind fun x => (f x).bind fun y => g x y).run s = .ok c s') (ho : OkObs s') :
    ∃ x y s1 s2, a.run s = .ok x s1 ∧ (f x).run s1 = .ok y s2 ∧ (g x y).run s2 = .ok c s' ∧ OkObs s2 := by
  obtain ⟨x, s1, h1, h2, ho1, _, _⟩ := M.bind_did h ho
  obtain ⟨y, s2, h3, h4, ho2, _, _⟩ := M.bind_did h2 ho
  exact ⟨x, y, s1, s2, h1, h3, h4, ho2⟩
theorem roomOf_ok {id off len n q : Nat} {hi : Option AVal} (h : (roomOf id off len n hi).run s = .ok q s') : Same s s' ∧ (q = len ∨ ∃ c t, s.heap.get id = some (.row c t) ∧ q = max len ((c.size - off) / n)) := by
  unfold roomOf at h
  split at h
  · split at h
    · obtain ⟨rfl, rfl⟩ := pure_ok h; exact ⟨.refl _, .inl rfl⟩
    · obtain ⟨b, s1, h1, h2⟩ := M.bind_ok h
      obtain ⟨hg, e1⟩ := get_ok h1
      obtain ⟨c, t, rfl, h3⟩ := row_ok h2
      obtain ⟨rfl, rfl⟩ := pure_ok h3
      exact ⟨e1, .inr ⟨c, t, hg, rfl⟩⟩
  · obtain ⟨rfl, rfl⟩ := pure_ok h; exact ⟨.refl _, .inl rfl⟩
theorem roomOf_le {P : Program} {w : World} {id off len n q : Nat} {r : RB} {cc : Nat} (hr : Rel P ρ m s.heap.get w) (hρ : ρ id = some r) (hlc : len ≤ cc) (hc : r.n ≤ off + cc * n) (hq : q = len ∨ ∃ c t, s.heap.get id = some (.row c t) ∧ q = max len ((c.size - off) / n)) : len ≤ q ∧ q ≤ cc := by
  rcases hq with rfl | ⟨c, t, hg, rfl⟩
  · exact ⟨Nat.le_refl _, hlc⟩
  · refine ⟨Nat.le_max_left _ _, Nat.max_le.2 ⟨hlc, ?_⟩⟩
    obtain ⟨rb, o, h1, h2, h3, h4⟩ := hr.live id _ hg
    rw [hρ] at h1
    injection h1 with h1
    subst h1
    cases h3 with
    | row _ _ arr fr hs hn hcs hrr hf =>
      have : c.size - off ≤ cc * n := by omega
      by_cases h0 : n = 0
      · subst h0; simp
      · exact Nat.div_le_of_le_mul (by rw [Nat.mul_comm]; exact this)
theorem bind3 {α β γ δ : Type} {a : M α} {f : α → M β} {g : α → β → M γ} {e : α → β → γ → M δ} {c : δ} (h : (a.bind fun x => (f x).bind fun y => (g x y).bind fun z => e x y z).run s = .ok c s') (ho : OkObs s') :
    ∃ x y z s1 s2 s3, a.run s = .ok x s1 ∧ (f x).run s1 = .ok y s2 ∧ (g x y).run s2 = .ok z s3 ∧ (e x y z).run s3 = .ok c s' ∧ OkObs s3 := by
  obtain ⟨x, s1, h1, h2, ho1, _, _⟩ := M.bind_did h ho
  obtain ⟨y, s2, h3, h4, ho2, _, _⟩ := M.bind_did h2 ho
  obtain ⟨z, s3, h5, h6, ho3, _, _⟩ := M.bind_did h4 ho
  exact ⟨x, y, z, s1, s2, s3, h1, h3, h5, h6, ho3⟩
theorem getE_take_drop (l : List UInt8) (h k : Nat) : (⟨⟨l⟩⟩ : ByteArray).extract k h = ⟨⟨(l.take h).drop k⟩⟩ := by
  have : ((⟨⟨l⟩⟩ : ByteArray).extract k h).data.toList = (l.take h).drop k := by
    rw [ByteArray.data_extract]
    simp [List.extract_eq_take_drop, List.drop_take]
  cases hh : (⟨⟨l⟩⟩ : ByteArray).extract k h with
  | mk d =>
    rw [hh] at this
    cases d with
    | mk t => simp only at this; rw [this]

theorem slice_sim {t : TypeId} {a : AVal} {lo hi mx : Option AVal} (h : (slice E t a lo hi mx).run s = .ok v s') (ho : OkObs s') (hr : Rel E.P ρ m s.heap.get w) {x : Value} {lo' hi' mx' : Option Value} (hx : R ρ m a x)
    (hl : RO ρ m lo lo') (hh : RO ρ m hi hi') (hm : RO ρ m mx mx') : Out E.P ρ m s w s' v ((Instr.sliceAt t x lo' hi' mx').run E.P w) := by
  obtain ⟨d, s1, h1, h2⟩ := M.bind_ok h
  obtain ⟨⟨i0, hi0, rfl⟩, rfl⟩ := und_ok h1
  have hu := hi0.run_und (w := w)
  cases hd : i0.desc with
  | string =>
    rw [hd] at h2 hu
    cases hm with
    | some _ _ _ => exact (fail_ok h2).elim
    | none =>
      obtain ⟨l, rfl, h3⟩ := str_ok h2
      obtain rfl := hx.str_inv
      obtain ⟨hq, lq, s2, s3, k1, k2, k3, ho3⟩ := bind2 h3 ho
      obtain ⟨rfl, rfl⟩ := pure_ok k3
      obtain ⟨b1, b2, b3, b4⟩ := run_bounds2 (P := E.P) (w := w) (isSl := false) (cap := l.length) k1 k2 ho3 hl hh (Nat.le_refl _) (Nat.le_refl _)
      have hsz : (⟨⟨l⟩⟩ : ByteArray).size = l.length := rfl
      simp only [Instr.sliceAt, Instr.slice, Sem.run_bind, hu, Result.andThen_ok, Option.isSome, Bool.false_eq_true, if_false, hsz, b1, Sem.run_pure, getE_take_drop]
      exact .same hr b4 (.str _)
  | slice e =>
    rw [hd] at h2 hu
    obtain ⟨n, s2, h3, h4⟩ := M.bind_ok h2
    obtain ⟨⟨j, hj, rfl⟩, rfl⟩ := sizeOf_ok h3
    have hz := hj.run_size (w := w)
    cases hm with
    | none =>
      simp only at h4
      split at h4
      · obtain ⟨hq, lq, s2, s3, k1, k2, k3, ho3⟩ := bind2 h4 ho
        obtain ⟨rfl, rfl⟩ := pure_ok k3
        cases hx with
        | nils =>
          obtain ⟨b1, b2, b3, b4⟩ := run_bounds2 (P := E.P) (w := w) (isSl := true) (cap := 0) k1 k2 ho3 hl hh (Nat.le_refl _) (Nat.le_refl _)
          obtain rfl : hq = 0 := by omega
          obtain rfl : lq = 0 := by omega
          simp only [Instr.sliceAt, Instr.slice, Sem.run_bind, hu, Result.andThen_ok, b1, hz, Sem.run_pure]
          exact .same hr b4 .nils
      · obtain ⟨hq, lq, s2, s3, k1, k2, k3, ho3⟩ := bind2 h4 ho
        obtain ⟨rfl, rfl⟩ := pure_ok k3
        cases hx with
        | emp ad =>
          obtain ⟨b1, b2, b3, b4⟩ := run_bounds2 (P := E.P) (w := w) (isSl := true) (cap := 0) k1 k2 ho3 hl hh (Nat.le_refl _) (Nat.le_refl _)
          obtain rfl : hq = 0 := by omega
          obtain rfl : lq = 0 := by omega
          simp only [Instr.sliceAt, Instr.slice, Sem.run_bind, hu, Result.andThen_ok, b1, hz, Sem.run_pure]
          exact .same hr b4 (.emp _)
      · rename_i g sz off len
        obtain ⟨hsz, h5⟩ := sameSz_ok h4
        obtain ⟨hq, lq, s2, s3, k1, k2, k3, ho3⟩ := bind2 h5 ho
        obtain ⟨rfl, rfl⟩ := pure_ok k3
        cases hx with
        | isl _ _ _ _ b o c g' hg hrr hlc =>
          obtain ⟨b1, b2, b3, b4⟩ := run_bounds2 (P := E.P) (w := w) (isSl := true) (cap := c) k1 k2 ho3 hl hh (Nat.le_refl _) hlc
          simp only [Instr.sliceAt, Instr.slice, Sem.run_bind, hu, Result.andThen_ok, b1, hz, Sem.run_pure, Option.map_some, add_plain]
          refine .same hr b4 ?_
          by_cases e0 : c = lq
          · subst e0
            have : hq - c = 0 := by omega
            rw [this, if_pos rfl]
            exact .isl0 _ _ _ _ _
          · rw [if_neg e0]
            have hle : off + lq * j.size + (hq - lq) * sz ≤ off + len * sz := by
              rw [hsz, Nat.add_assoc, ← Nat.add_mul]
              exact Nat.add_le_add_left (Nat.mul_le_mul_right _ (by omega)) _
            have := R.isl (ρ := ρ) (m := m) g sz (off + lq * j.size) (hq - lq) b o (c - lq) g' (fun k hk => hg k (by omega)) (fun k hk => hrr k (by omega)) (by omega)
            rw [← Nat.add_assoc] at this
            exact this
        | isl0 _ _ _ c ad =>
          obtain ⟨b1, b2, b3, b4⟩ := run_bounds2 (P := E.P) (w := w) (isSl := true) (cap := c) k1 k2 ho3 hl hh (Nat.le_refl _) (Nat.zero_le _)
          obtain rfl : hq = 0 := by omega
          obtain rfl : lq = 0 := by omega
          simp only [Instr.sliceAt, Instr.slice, Sem.run_bind, hu, Result.andThen_ok, b1, hz, Sem.run_pure, Option.map_some]
          split <;> exact .same hr b4 (.isl0 _ _ _ _ _)
      · rename_i id off len cap sz
        obtain ⟨hsz, h5⟩ := sameSz_ok h4
        cases cap with
        | some c =>
          obtain ⟨hq, lq, s2, s3, k1, k2, k3, ho3⟩ := bind2 h5 ho
          obtain ⟨rfl, rfl⟩ := pure_ok k3
          cases hx with
          | slx _ _ _ _ _ r hρ hlc =>
            obtain ⟨b1, b2, b3, b4⟩ := run_bounds2 (P := E.P) (w := w) (isSl := true) (cap := c) k1 k2 ho3 hl hh hlc (Nat.le_refl _)
            simp only [Instr.sliceAt, Instr.slice, Sem.run_bind, hu, Result.andThen_ok, b1, hz, Sem.run_pure, Option.map_some, add_plain]
            refine .same hr b4 ?_
            by_cases e0 : c = lq
            · subst e0
              rw [if_pos rfl]
              have e1 : hq - c = 0 := by omega
              have e2 : c - c = 0 := by omega
              rw [e1, e2]
              exact .sl0 _ _ _ _ _ (fun k hk => by simpa using hk.symm) (fun hk => by cases hk)
            · rw [if_neg e0]
              exact .slx _ _ _ _ _ r hρ (by omega)
          | sl0 _ _ _ _ ad hc hn =>
            obtain rfl : c = 0 := hc c rfl
            obtain ⟨b1, b2, b3, b4⟩ := run_bounds2 (P := E.P) (w := w) (isSl := true) (cap := 0) k1 k2 ho3 hl hh (Nat.le_refl _) (Nat.le_refl _)
            obtain rfl : hq = 0 := by omega
            obtain rfl : lq = 0 := by omega
            simp only [Instr.sliceAt, Instr.slice, Sem.run_bind, hu, Result.andThen_ok, b1, hz, Sem.run_pure]
            exact .same hr b4 (.sl0 _ _ _ _ _ (fun k hk => by simpa using hk.symm) (fun hk => by cases hk))
        | none =>
          obtain ⟨most, s0, k0, h5'⟩ := M.bind_ok h5
          obtain ⟨e0', hq0⟩ := roomOf_ok k0
          obtain ⟨hq, lq, s2, s3, k1, k2, k3, ho3⟩ := bind2 h5' ho
          obtain ⟨rfl, rfl⟩ := pure_ok k3
          cases hx with
          | slw _ _ _ c _ r hρ hlc hs hc =>
            obtain ⟨m1, m2⟩ := roomOf_le hr hρ hlc (by rw [← hsz] at hc; omega) hq0
            obtain ⟨b1, b2, b3, b4'⟩ := run_bounds2 (P := E.P) (w := w) (isSl := true) (cap := c) k1 k2 ho3 hl hh m1 m2
            have b4 := e0'.trans b4'
            simp only [Instr.sliceAt, Instr.slice, Sem.run_bind, hu, Result.andThen_ok, b1, hz, Sem.run_pure, Option.map_some, add_plain]
            refine .same hr b4 ?_
            by_cases e0 : c = lq
            · subst e0
              rw [if_pos rfl]
              have e1 : hq - c = 0 := by omega
              have e2 : c - c = 0 := by omega
              rw [e1, e2]
              exact .sl0 _ _ _ _ _ (fun k hk => by cases hk) (fun _ => ⟨r, hρ, by rw [← hc, hsz]; exact Nat.le_refl _⟩)
            · rw [if_neg e0]
              refine .slw _ _ _ _ _ r hρ (by omega) hs ?_
              rw [hsz, Nat.add_assoc, ← Nat.add_mul]
              have : lq + (c - lq) = c := by omega
              rw [this]; exact hc
          | sl0 _ _ _ _ ad hc hn =>
            obtain ⟨r0, hρ0, hn0⟩ := hn rfl
            obtain ⟨m1, m2⟩ := roomOf_le (cc := 0) hr hρ0 (Nat.le_refl _) (by omega) hq0
            obtain ⟨b1, b2, b3, b4'⟩ := run_bounds2 (P := E.P) (w := w) (isSl := true) (cap := 0) k1 k2 ho3 hl hh m1 m2
            have b4 := e0'.trans b4'
            obtain rfl : hq = 0 := by omega
            obtain rfl : lq = 0 := by omega
            simp only [Instr.sliceAt, Instr.slice, Sem.run_bind, hu, Result.andThen_ok, b1, hz, Sem.run_pure]
            exact .same hr b4 (.sl0 _ _ _ _ _ (fun k hk => by cases hk) (fun e => by obtain ⟨r, h1, h2⟩ := hn e; exact ⟨r, h1, by omega⟩))
      · exact (fail_ok h4).elim
    | some mv mxv hmv =>
      simp only at h4
      cases hi with
      | none => exact (fail_ok h4).elim
      | some hv =>
        simp only at h4
        split at h4
        · obtain ⟨q, hq, lq, s1, s2, s3, k0, k1, k2, k3, ho3⟩ := bind3 h4 ho
          obtain ⟨rfl, rfl⟩ := pure_ok k3
          cases hx with
          | nils =>
            obtain ⟨b1, b2, b3, b5, b4⟩ := run_bounds3 (P := E.P) (w := w) (cap := 0) k0 k1 k2 ho3 hl hh (.some _ _ hmv) (by simp) (by simp) (Nat.le_refl _)
            obtain rfl : q = 0 := by omega
            obtain rfl : hq = 0 := by omega
            obtain rfl : lq = 0 := by omega
            simp only [Instr.sliceAt, Instr.slice, Sem.run_bind, hu, Result.andThen_ok, b1, hz, Sem.run_pure]
            exact .same hr b4 .nils
        · obtain ⟨q, hq, lq, s1, s2, s3, k0, k1, k2, k3, ho3⟩ := bind3 h4 ho
          obtain ⟨rfl, rfl⟩ := pure_ok k3
          cases hx with
          | emp ad =>
            obtain ⟨b1, b2, b3, b5, b4⟩ := run_bounds3 (P := E.P) (w := w) (cap := 0) k0 k1 k2 ho3 hl hh (.some _ _ hmv) (by simp) (by simp) (Nat.le_refl _)
            obtain rfl : q = 0 := by omega
            obtain rfl : hq = 0 := by omega
            obtain rfl : lq = 0 := by omega
            simp only [Instr.sliceAt, Instr.slice, Sem.run_bind, hu, Result.andThen_ok, b1, hz, Sem.run_pure]
            exact .same hr b4 (.emp _)
        · rename_i g sz off len
          obtain ⟨hsz, h5⟩ := sameSz_ok h4
          obtain ⟨q, hq, lq, s1, s2, s3, k0, k1, k2, k3, ho3⟩ := bind3 h5 ho
          obtain ⟨rfl, rfl⟩ := pure_ok k3
          cases hx with
          | isl _ _ _ _ b o c g' hg hrr hlc =>
            obtain ⟨b1, b2, b3, b5, b4⟩ := run_bounds3 (P := E.P) (w := w) (cap := c) k0 k1 k2 ho3 hl hh (.some _ _ hmv) (by simp) (by simp) (Nat.zero_le _)
            obtain rfl : q = 0 := by omega
            obtain rfl : hq = 0 := by omega
            obtain rfl : lq = 0 := by omega
            simp only [Instr.sliceAt, Instr.slice, Sem.run_bind, hu, Result.andThen_ok, b1, hz, Sem.run_pure]
            exact .same hr b4 (.emp _)
          | isl0 _ _ _ c ad =>
            obtain ⟨b1, b2, b3, b5, b4⟩ := run_bounds3 (P := E.P) (w := w) (cap := c) k0 k1 k2 ho3 hl hh (.some _ _ hmv) (by simp) (by simp) (Nat.zero_le _)
            obtain rfl : q = 0 := by omega
            obtain rfl : hq = 0 := by omega
            obtain rfl : lq = 0 := by omega
            simp only [Instr.sliceAt, Instr.slice, Sem.run_bind, hu, Result.andThen_ok, b1, hz, Sem.run_pure]
            exact .same hr b4 (.emp _)
        · rename_i id off len cap sz
          obtain ⟨hsz, h5⟩ := sameSz_ok h4
          obtain ⟨q, hq, lq, s1, s2, s3, k0, k1, k2, k3, ho3⟩ := bind3 h5 ho
          obtain ⟨rfl, rfl⟩ := pure_ok k3
          cases hx with
          | slx _ _ _ c _ r hρ hlc =>
            have hcc : (some c).getD len ≤ c := Nat.le_refl _
            obtain ⟨b1, b2, b3, b5, b4⟩ := run_bounds3 (P := E.P) (w := w) (cap := c) k0 k1 k2 ho3 hl hh (.some _ _ hmv) (by simp) (by simp) hcc
            simp only [Instr.sliceAt, Instr.slice, Sem.run_bind, hu, Result.andThen_ok, b1, hz, Sem.run_pure, Option.map_some, add_plain]
            refine .same hr b4 ?_
            by_cases e0 : q = lq
            · subst e0
              rw [if_pos rfl]
              have e1 : hq - q = 0 := by omega
              have e2 : q - q = 0 := by omega
              rw [e1, e2]
              exact .sl0 _ _ _ _ _ (fun k hk => by simpa using hk.symm) (fun hk => by cases hk)
            · rw [if_neg e0]
              exact .slx _ _ _ _ _ r hρ (by omega)

          | slw _ _ _ c _ r hρ hlc hs hc =>
            have hcc : (none : Option Nat).getD len ≤ c := hlc
            obtain ⟨b1, b2, b3, b5, b4⟩ := run_bounds3 (P := E.P) (w := w) (cap := c) k0 k1 k2 ho3 hl hh (.some _ _ hmv) (by simp) (by simp) hcc
            simp only [Instr.sliceAt, Instr.slice, Sem.run_bind, hu, Result.andThen_ok, b1, hz, Sem.run_pure, Option.map_some, add_plain]
            refine .same hr b4 ?_
            by_cases e0 : q = lq
            · subst e0
              rw [if_pos rfl]
              have e1 : hq - q = 0 := by omega
              have e2 : q - q = 0 := by omega
              rw [e1, e2]
              exact .sl0 _ _ _ _ _ (fun k hk => by simpa using hk.symm) (fun hk => by cases hk)
            · rw [if_neg e0]
              exact .slx _ _ _ _ _ r hρ (by omega)

          | sl0 _ _ _ _ ad hc hn =>
            have hc0 : cap.getD 0 ≤ 0 := by
              cases cap with
              | none => exact Nat.le_refl _
              | some k => have := hc k rfl; subst this; exact Nat.le_refl _
            obtain ⟨b1, b2, b3, b5, b4⟩ := run_bounds3 (P := E.P) (w := w) (cap := 0) k0 k1 k2 ho3 hl hh (.some _ _ hmv) (by simp) (by simp) hc0
            obtain rfl : q = 0 := by omega
            obtain rfl : hq = 0 := by omega
            obtain rfl : lq = 0 := by omega
            simp only [Instr.sliceAt, Instr.slice, Sem.run_bind, hu, Result.andThen_ok, b1, hz, Sem.run_pure]
            exact .same hr b4 (.sl0 _ _ _ _ _ (fun k hk => by simpa using hk.symm) (fun hk => by cases hk))
        · exact (fail_ok h4).elim
  | array len e =>
    rw [hd] at h2 hu
    obtain ⟨n, s2, h3, h4⟩ := M.bind_ok h2
    obtain ⟨⟨j, hj, rfl⟩, rfl⟩ := sizeOf_ok h3
    have hz := hj.run_size (w := w)
    cases hm with
    | some _ _ _ => exact (fail_ok h4).elim
    | none =>
      obtain ⟨hq, lq, s2, s3, k1, k2, k3, ho3⟩ := bind2 h4 ho
      obtain ⟨b1, b2, b3, b4⟩ := run_bounds2 (P := E.P) (w := w) (isSl := false) (cap := len) k1 k2 ho3 hl hh (Nat.le_refl _) (Nat.le_refl _)
      split at k3
      · rename_i id off
        obtain ⟨rfl, rfl⟩ := pure_ok k3
        cases hx with
        | ptr _ _ r hρ =>
          simp only [Instr.sliceAt, Sem.run_bind, hu, Result.andThen_ok, Instr.sureAddr, b1, hz, Sem.run_pure, add_plain]
          refine .same hr b4 ?_
          by_cases e0 : len = lq
          · subst e0
            rw [if_pos rfl]
            have e1 : hq - len = 0 := by omega
            have e2 : len - len = 0 := by omega
            rw [e1, e2]
            exact .sl0 _ _ _ _ _ (fun k hk => by simpa using hk.symm) (fun hk => by cases hk)
          · rw [if_neg e0]
            exact .slx _ _ _ _ _ r hρ (by omega)
      · rename_i g mm off
        obtain ⟨_, s4, h5, h6, ho4, _, _⟩ := M.bind_did k3 ho
        obtain ⟨h7, h8⟩ := ob_ok h5 ho4
        obtain ⟨rfl, rfl⟩ := pure_ok h6
        have h7' := Nat.le_of_ble_eq_true h7
        cases hx with
        | ip _ _ _ b o g' hg hrr =>
          simp only [Instr.sliceAt, Sem.run_bind, hu, Result.andThen_ok, Instr.sureAddr, b1, hz, Sem.run_pure, add_plain]
          refine .same hr (b4.trans h8) ?_
          by_cases e0 : len = lq
          · subst e0
            have e1 : hq - len = 0 := by omega
            rw [e1, if_pos rfl]
            exact .isl0 _ _ _ _ _
          · rw [if_neg e0]
            have hle : off + lq * j.size + (hq - lq) * j.size ≤ off + len * j.size := by
              rw [Nat.add_assoc, ← Nat.add_mul]
              exact Nat.add_le_add_left (Nat.mul_le_mul_right _ (by omega)) _
            have := R.isl (ρ := ρ) (m := m) g j.size (off + lq * j.size) (hq - lq) b o (len - lq) g' (fun k hk => hg k (by omega)) (fun k hk => hrr k (by omega)) (by omega)
            rw [← Nat.add_assoc] at this
            exact this
      · exact (fail_ok k3).elim
  | _ => rw [hd] at h2; exact (fail_ok h2).elim
end
end Go.Am
