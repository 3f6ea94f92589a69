/- The abstract machine's operations do what the model's do: conversions, lengths, what is no call. -/
import Derived.Test.YtmoplhbncjicbaaAmX
set_option linter.unusedSimpArgs false
set_option linter.unusedVariables false
namespace Go.Am
open Go

variable {E : Env}
section
variable {ρ : Ren} {m : Mem} {s s' : St} {w : World} {v : AVal}

theorem isU8_ok {d : TypeDesc} (h : isU8 d = true) : d = .int .u8 := by
  unfold isU8 at h
  split at h
  · rfl
  · cases h
theorem isByte_ok {a : AVal} (h : isByte a = true) : ∃ n, a = .int .u8 n := by
  unfold isByte at h
  split at h
  · exact ⟨_, rfl⟩
  · cases h
/-- Bytes as they stand in cells. -/
theorem bytes_of {cs : List AVal} (h : cs.all isByte = true) {xs : Array Value} (hx : RL ρ m cs xs) : ∃ ns : List Int, xs = (ns.map (Value.int .u8)).toArray ∧ cs.map toByte = ns.map fun n => UInt8.ofNat n.toNat := by
  obtain ⟨xl⟩ := xs
  have hl := hx.len
  have ha := hx.at_
  clear hx
  simp only [List.size_toArray] at hl
  revert xl
  induction cs with
  | nil =>
    intro xl _ hl
    cases xl with
    | nil => exact ⟨[], rfl, rfl⟩
    | cons => simp at hl
  | cons c cs ih =>
    intro xl ha hl
    cases xl with
    | nil => simp at hl
    | cons x xl =>
      simp only [List.all_cons, Bool.and_eq_true] at h
      obtain ⟨n, rfl⟩ := isByte_ok h.1
      obtain ⟨ns, h1, h2⟩ := ih h.2 xl (fun i v x hv hx => ha (i + 1) v x (by simpa using hv) (by simpa using hx)) (by simpa using hl)
      have := (ha 0 (.int .u8 n) x (by simp) (by simp)).int_inv
      subst this
      refine ⟨n :: ns, ?_, by simp [toByte, h2]⟩
      have h1' : xl = ns.map (Value.int .u8) := by simpa using h1
      rw [h1', List.map_cons]
theorem convStr_sim {src dst e : TypeId} {a : AVal} (hs : E.P.underlying src = some (.slice e)) (hd : E.P.underlying dst = some .string) (h : (convStr E e a).run s = .ok v s') (ho : OkObs s') (hr : Rel E.P ρ m s.heap.get w)
    (hns : ∀ l, a ≠ .str l) {x : Value} (hx : R ρ m a x) : Out E.P ρ m s w s' v ((Go.convert src dst x).run E.P w) := by
  obtain ⟨u, s1, h1, h2⟩ := M.bind_ok h
  obtain ⟨⟨i, hi, rfl⟩, rfl⟩ := und_ok h1
  split at h2
  · rename_i hu
    have he : E.P.underlying e = some (.int .u8) := by rw [hi.und, isU8_ok hu]
    obtain ⟨n, s2, h3, h4⟩ := M.bind_ok h2
    obtain ⟨rfl, k1⟩ := lenOf_sim (P := E.P) (w := w) h3 hx
    obtain ⟨cs, s3, h5, h6, ho3, _, _⟩ := M.bind_did h4 ho
    obtain ⟨xs, g1, g2, g3, e3⟩ := sliceCells_sim h5 ho3 hr hx
    obtain ⟨_, s4, h7, h8, ho4, _, _⟩ := M.bind_did h6 ho
    obtain ⟨hall, e4⟩ := ob_ok h7 ho4
    obtain ⟨rfl, rfl⟩ := pure_ok h8
    obtain ⟨ns, b1, b2⟩ := bytes_of hall g2
    have go : ∀ (base : Option Addr) (l c : Nat), x = .slice base l c → Out E.P ρ m s2 w s' (.str (cs.map toByte)) ((Go.convert src dst x).run E.P w) := by
      rintro base l c rfl
      have hl : l = n := by
        have := k1
        simp only [Builtin.lenOf] at this
        injection this
      subst hl
      have fin : (Conv.bytesToString (.slice base l c)).run E.P w = .ok (.string ⟨⟨cs.map toByte⟩⟩) w := by
        cases base with
        | none =>
          have : xs = #[] := by
            have := g1
            simp only [Builtin.firstCells] at this
            injection this with this
            exact this.symm
          have hc : cs = [] := by
            have := g2.len
            rw [‹xs = #[]›] at this
            simpa using this
          subst hc
          rfl
        | some ad =>
          have : (loadCells ad l).run E.P w = .ok (ns.map (Value.int .u8)).toArray w := by
            have := g1
            simp only [Builtin.firstCells, Nat.mul_one] at this
            rw [this, b1]
          rw [run_bytesToString w ad l c ns this, foldl_push_bytes, b2]
          have : ((ByteArray.empty).data ++ (ns.map fun n => UInt8.ofNat n.toNat).toArray) = ⟨ns.map fun n => UInt8.ofNat n.toNat⟩ := by
            have he0 : ByteArray.empty.data = #[] := rfl
            rw [he0]; simp
          rw [this]
      rw [run_convert_bytes_string w src dst e base l c hs he hd, fin]
      exact .same hr (e3.trans e4) (.str _)
    unfold lenOf at h3
    split at h3
    · cases hx; exact go _ _ _ rfl
    · cases hx; exact go _ _ _ rfl
    · cases hx <;> exact go _ _ _ rfl
    · cases hx <;> exact go _ _ _ rfl
    · exact absurd rfl (hns _)
    · exact (fail_ok h3).elim
  · exact (fail_ok h2).elim
theorem freeze_upd {w : World} {b n : Nat} {c : Array Value} {t : TypeId} {fr : Nat × Nat} (h : w.heap[b]? = some (.cells c t fr)) :
    ∃ fr', (fr' = (n, n + 1) ∨ fr' = (min fr.1 n, max fr.2 (n + 1)) ∧ fr.1 ≠ fr.2) ∧ w.freeze ⟨b, n, none⟩ 1 = World.upd w b (.cells c t fr') := by
  obtain ⟨hb, he⟩ := Array.getElem?_eq_some_iff.1 h
  refine ⟨if fr.1 == fr.2 then (n, n + 1) else (min fr.1 n, max fr.2 (n + 1)), ?_, ?_⟩
  · by_cases hf : fr.1 = fr.2
    · simp [hf]
    · simp [hf]
  · unfold World.freeze World.upd
    rw [if_neg (by decide)]
    congr 1
    apply Array.ext_getElem?
    intro i
    rw [Array.getElem?_modify, Array.getElem?_setIfInBounds]
    by_cases e : b = i
    · subst e
      obtain ⟨lo, hi⟩ := fr
      simp [hb, he]
    · simp [e]
theorem convert_sim {src dst : TypeId} {a : AVal} (h : (convert E src dst a).run s = .ok v s') (ho : OkObs s') (hr : Rel E.P ρ m s.heap.get w) (hf : Fresh ρ s s') {x : Value} (hx : R ρ m a x) :
    Out E.P ρ m s w s' v ((Go.convert src dst x).run E.P w) := by
  obtain ⟨ds, s1, h1, h2⟩ := M.bind_ok h
  obtain ⟨⟨i, hi, rfl⟩, rfl⟩ := und_ok h1
  obtain ⟨dd, s2, h3, h4⟩ := M.bind_ok h2
  obtain ⟨⟨j, hj, rfl⟩, rfl⟩ := und_ok h3
  have hu := hi.run_und (w := w)
  have hv := hj.run_und (w := w)
  cases hd : j.desc with
  | int k =>
    rw [hd] at h4 hv
    obtain ⟨q, n, rfl, h5⟩ := int_ok h4
    obtain ⟨rfl, rfl⟩ := pure_ok h5
    obtain rfl := hx.int_inv
    simp only [Go.convert, Sem.run_bind, hu, hv, Result.andThen_ok, Conv.intToInt, Sem.run_pure]
    exact .same hr (.refl _) (.int _ _)
  | string =>
    rw [hd] at h4 hv
    cases hs : i.desc with
    | string =>
      rw [hs] at h4 hu
      obtain ⟨l, rfl, h5⟩ := str_ok h4
      obtain ⟨rfl, rfl⟩ := pure_ok h5
      obtain rfl := hx.str_inv
      simp only [Go.convert, Sem.run_bind, hu, hv, Result.andThen_ok, Sem.run_pure]
      exact .same hr (.refl _) (.str _)
    | slice e =>
      rw [hs] at h4 hu
      simp only at h4
      split at h4
      · exact (fail_ok h4).elim
      · rename_i hns
        exact convStr_sim (by rw [hi.und, hs]) (by rw [hj.und, hd]) h4 ho hr (fun l e => hns l e) hx
    | _ => rw [hs] at h4; exact (fail_ok h4).elim
  | slice e =>
    rw [hd] at h4 hv
    obtain ⟨u, s3, h5, h6⟩ := M.bind_ok h4
    obtain ⟨⟨i8, hi8, rfl⟩, rfl⟩ := und_ok h5
    split at h6
    · rename_i hu8
      have he : E.P.underlying e = some (.int .u8) := by rw [hi8.und, isU8_ok hu8]
      have hrune : (underlying e).run E.P w = .ok (.int .u8) w := run_underlying he w
      cases hs : i.desc with
      | string =>
        rw [hs] at h6 hu
        obtain ⟨l, rfl, h7⟩ := str_ok h6
        obtain ⟨n, s4, h8, h9⟩ := M.bind_ok h7
        obtain ⟨⟨ie, hie, rfl⟩, rfl⟩ := sizeOf_ok h8
        obtain ⟨h1s, h10⟩ := sameSz_ok h9
        obtain ⟨id, s5, h11, h12⟩ := M.bind_ok h10
        obtain ⟨rfl, rfl⟩ := pure_ok h12
        obtain ⟨i2, s6, h13, h14⟩ := M.bind_ok h11
        obtain ⟨hi2, rfl⟩ := ti_ok h13
        obtain rfl := hx.str_inv
        have hszl : (⟨⟨l⟩⟩ : ByteArray).size = l.length := rfl
        have hcap : l.length ≤ grownCap w l.length 0 e := by simp only [grownCap, Question.cut]; omega
        have hrow := run_bytes_of_string (P := E.P) w src dst e ⟨⟨l⟩⟩ (by rw [hi.und, hs]) (by rw [hj.und, hd]) he
        rw [hszl] at hrow
        have hrs : (bytesRow ⟨⟨l⟩⟩ (grownCap w l.length 0 e)).size = grownCap w l.length 0 e := by
          simp only [bytesRow, Array.size_append, Array.size_map, Array.size_replicate, hszl]
          show l.length + _ = _
          omega
        rw [hrs] at hrow
        have ei : i2.size = 1 := by
          have h1 := hi2.size_info
          rw [hie.size_info, h1s] at h1
          injection h1 with h1
          exact h1.symm
        obtain ⟨_, hp⟩ := newObj_sim (w := { w with drawn := w.drawn + 1 }) h14 hr.drew hf (.cells (bytesRow ⟨⟨l⟩⟩ (grownCap w l.length 0 e)) e (grownCap w l.length 0 e, grownCap w l.length 0 e + 1)) (grownCap w l.length 0 e) 1 (fun ρ' hle =>
          .row _ (.l (byteCells l)) e _ _ (by rw [hi2.size_info, ei]) hrs (by rw [hrs]; simpa [Cont.size, byteCells_length] using hcap) (fun q y hq hy => by
            simp only [Cont.size, byteCells_length] at hq
            rw [bytesRow_at _ _ _ (show q < l.length from hq)] at hy
            injection hy with hy
            subst hy
            simp only [Cont.at, nth_get, byteCells_get, List.getElem?_eq_getElem hq, Option.map_some, Option.getD_some]
            exact .int _ _) (.inr ⟨by rw [hrs]; exact Nat.le_refl _, he⟩))
        refine ⟨_, _, _, hrow, hp.drew, .slw id 0 l.length _ 1 ⟨w.heap.size, grownCap w l.length 0 e, 1⟩ (by simp [Ren.put]) hcap rfl (by simp)⟩
      | slice e' =>
        rw [hs] at h6 hu
        simp only at h6
        split at h6
        · rename_i hsd
          obtain rfl := Nat.eq_of_beq_eq_true hsd
          split at h6
          · rename_i id off len cap sz
            obtain ⟨b, s4, h7, h8, ho4, _, _⟩ := M.bind_did h6 ho
            obtain ⟨hg, e4⟩ := get_ok h7
            obtain ⟨c, t, rfl, h9⟩ := row_ok h8
            obtain ⟨_, s5, h10, h11, ho5, _, _⟩ := M.bind_did h9 ho
            obtain ⟨hb, e5⟩ := ob_ok h10 ho5
            rw [Bool.and_eq_true] at hb
            obtain ⟨hb, hte⟩ := hb
            obtain rfl := Nat.eq_of_beq_eq_true hte
            obtain ⟨_, s6, h12, h13⟩ := M.bind_ok h11
            obtain ⟨rfl, rfl⟩ := pure_ok h13
            obtain ⟨b', s7, h14, h15⟩ := M.bind_ok h12
            obtain ⟨hg7, e7⟩ := get_ok h14
            have hb' : b' = .row c t := by
              rw [e5.heap, e4.heap] at hg7
              rw [hg] at hg7
              injection hg7 with hg7
              exact hg7.symm
            subst hb'
            obtain ⟨_, hn, hset⟩ := set_ok h15
            have es := (e4.trans e5).trans e7
            have hee : e' = t := by
              have h1 : E.P.underlying src = some (.slice e') := by rw [hi.und, hs]
              rw [hj.und, hd] at h1
              injection h1 with h1
              injection h1 with h1
              exact h1.symm
            have hbeq : (src == src) = true := by simp
            have go : ∀ (r : RB) (cc : Nat), ρ id = some r → x = .slice (some ⟨r.b, off, none⟩) len cc → R ρ m (.sl id off len cap sz) x → Out E.P ρ m s3 w s' (.sl id off len cap sz) ((Go.convert src src x).run E.P w) := by
              rintro r cc hρ rfl hxx
              obtain ⟨arr, fr, q1, q2, q3, q4, q5, q6, q7⟩ := hr.row hg hρ
              obtain ⟨fr', f1, f2⟩ := freeze_upd (n := arr.size) q1
              have hsh : w.shape? r.b = some (t, arr.size) := by unfold World.shape?; rw [q1]
              refine ⟨_, _, ρ, ?_, ⟨.refl ρ, fun _ h => .inl h, fun _ _ h => h, hr.upd hg hρ (.row r c t arr fr' q2 q3 q4 q5 ?_) (fun jj => by rw [hset jj, es.heap]), World.upd_fr _ _ _, by rw [hn, es.next]; exact Nat.le_refl _⟩, hxx⟩
              · simp only [Go.convert, Sem.run_bind, hv, Result.andThen_ok, hbeq, hrune, markStringish, shape, freeze, Sem.run, hsh, Sem.bind]
                rw [f2]
                rfl
              · rcases f1 with rfl | ⟨rfl, hne⟩
                · exact .inr ⟨Nat.le_refl _, he⟩
                · rcases q6 with q6 | q6
                  · exact absurd q6 hne
                  · exact .inr ⟨by have := q6.1; simp only; omega, he⟩
            cases hx with
            | slx _ _ _ cc _ r hρ hl => exact go r cc hρ rfl (.slx _ _ _ cc _ r hρ hl)
            | slw _ _ _ cc _ r hρ hl hs2 hc => exact go r cc hρ rfl (.slw _ _ _ cc _ r hρ hl hs2 hc)
            | sl0 _ _ _ _ ad hc hn' =>
              exfalso
              cases cap with
              | some k =>
                have := hc k rfl
                subst this
                cases hb
              | none =>
                obtain ⟨r, hρ, hro⟩ := hn' rfl
                obtain ⟨arr, fr, q1, q2, q3, q4, _⟩ := hr.row hg hρ
                have hlt : off < c.size := Nat.le_of_ble_eq_true hb
                omega
          · exact (fail_ok h6).elim
        · exact (fail_ok h6).elim
      | _ => rw [hs] at h6; exact (fail_ok h6).elim
    · exact (fail_ok h6).elim
  | _ => rw [hd] at h4; exact (fail_ok h4).elim
end
end Go.Am
