/- What has no body and the model answers at once: bytes held against bytes; do two slices overlap? -/
import Derived.Test.YtmoplhbncjicbaaAoR
import Derived.Lib.BytesEntry
import Derived.Lib.Overlaps
import Derived.Laws.Externs
set_option linter.unusedSimpArgs false
set_option linter.unusedVariables false
set_option linter.defProp false
namespace Go.Am
open Go
def byteL (cs : List AVal) : M (List UInt8) := (ob (cs.all isByte)).bind fun _ => M.pure (cs.map toByte)
/-- The bytes of a string, or of a slice. -/
def bytesA : AVal → M (List UInt8)
  | .nils => M.pure []
  | .emp => M.pure []
  | .str l => M.pure l
  | .sl id off len _ sz => sameSz sz 1 ((readCells (.ptr id off) len).bind byteL)
  | .isl g sz off len => sameSz sz 1 ((readCells (.ip g (off + len) off) len).bind byteL)
  | _ => fail "bytes expected"
def compareAct : List AVal → M AVal
  | [x, y] => (bytesA x).bind fun a => (bytesA y).bind fun b => M.pure (.int .i64 (Lib.compareBytes a b))
  | _ => fail "Compare"
section
variable {P : Program} {f : FuncId} {ρ : Ren} {m : Mem} {s s' : St} {w : World}
theorem byteL_sim {cs : List AVal} {l : List UInt8} (h : (byteL cs).run s = .ok l s') (ho : OkObs s') {ad : Addr} {xs : List Value} (hc : ∀ j y, xs[j]? = some y → w.cell? (ad.add j) = some y) (hx : RL ρ m cs xs.toArray) :
    (Extern.Bytes.loadBytes ad xs.length .empty).run P w = .ok ⟨⟨l⟩⟩ w ∧ Same s s' := by
  unfold byteL at h
  obtain ⟨_, s1, h1, h2, ho1, _, _⟩ := M.bind_did h ho
  obtain ⟨hall, e1⟩ := ob_ok h1 ho1
  obtain ⟨rfl, rfl⟩ := pure_ok h2
  obtain ⟨ns, b1, b2⟩ := bytes_of hall hx
  have b1' : xs = ns.map (Value.int .u8) := by simpa using b1
  have := Lib.run_loadBytesX (P := P) w ns ad .empty (fun j x hj => hc j _ (by rw [b1', List.getElem?_map, hj]; rfl))
  refine ⟨?_, e1⟩
  rw [b1', List.length_map, this, b2]
  congr 1
  apply ByteArray.ext
  have he0 : ByteArray.empty.data = #[] := rfl
  rw [he0]
  simp [Lib.bytesOf]
theorem bytesA_sim {a : AVal} {l : List UInt8} (h : (bytesA a).run s = .ok l s') (ho : OkObs s') (hr : Rel P ρ m s.heap.get w) {x : Value} (hx : R ρ m a x) :
    (Extern.Bytes.bytesOf x).run P w = .ok ⟨⟨l⟩⟩ w ∧ Same s s' := by
  cases a with
  | nils => obtain ⟨rfl, rfl⟩ := pure_ok h; cases hx; exact ⟨rfl, .refl _⟩
  | emp =>
    obtain ⟨rfl, rfl⟩ := pure_ok h
    cases hx with
    | emp ad => cases ad <;> exact ⟨rfl, .refl _⟩
  | str l => obtain ⟨rfl, rfl⟩ := pure_ok h; cases hx; exact ⟨rfl, .refl _⟩
  | sl id off len cap sz =>
    obtain ⟨rfl, h1⟩ := sameSz_ok h
    obtain ⟨cs, s1, h2, h3, ho1, _, _⟩ := M.bind_did h1 ho
    have go : ∀ (r : RB) (c : Nat), ρ id = some r → (Extern.Bytes.bytesOf (.slice (some ⟨r.b, off, none⟩) len c)).run P w = .ok ⟨⟨l⟩⟩ w ∧ Same s s' := by
      intro r c hρ
      obtain ⟨ad, xs, e, k1, k2, k3, k4, k5⟩ := readCells_sim h2 ho1 hr (.ptr id off r hρ)
      injection e with e
      injection e with e
      subst e
      obtain ⟨q1, q2⟩ := byteL_sim (P := P) h3 ho k1 k3
      rw [k2] at q1
      exact ⟨q1, k5.trans q2⟩
    cases hx with
    | slx _ _ _ c _ r hρ hl => exact go r c hρ
    | slw _ _ _ c _ r hρ hl hs hc => exact go r c hρ
    | sl0 _ _ _ _ ad hc hn =>
      have hcs : cs = [] ∧ Same s s1 := by
        unfold readCells at h2
        obtain ⟨b, s2, h4, h5, ho2, _, _⟩ := M.bind_did h2 ho1
        obtain ⟨hg, e1⟩ := get_ok h4
        obtain ⟨c, t, rfl, h6⟩ := row_ok h5
        obtain ⟨_, s3, h7, h8, ho3, _, _⟩ := M.bind_did h6 ho1
        obtain ⟨hb, e2⟩ := ob_ok h7 ho3
        obtain ⟨rfl, rfl⟩ := pure_ok h8
        have := Cont.sub_length (n := 0) (Nat.le_of_ble_eq_true hb)
        exact ⟨List.length_eq_zero_iff.1 this, e1.trans e2⟩
      obtain ⟨rfl, e⟩ := hcs
      unfold byteL at h3
      obtain ⟨_, s2, h4, h5, ho2, _, _⟩ := M.bind_did h3 ho
      obtain ⟨_, e1⟩ := ob_ok h4 ho2
      obtain ⟨rfl, rfl⟩ := pure_ok h5
      exact ⟨rfl, e.trans e1⟩
  | isl g sz off len =>
    obtain ⟨rfl, h1⟩ := sameSz_ok h
    obtain ⟨cs, s1, h2, h3, ho1, _, _⟩ := M.bind_did h1 ho
    cases hx with
    | isl _ _ _ _ b o c g' hg hrr hl =>
      obtain ⟨ad, xs, e, k1, k2, k3, k4, k5⟩ := readCells_sim h2 ho1 hr (.ip g (off + len) off b o g' (fun j hj => hg j (by omega)) (fun j hj => hrr j (by omega)))
      injection e with e
      injection e with e
      subst e
      obtain ⟨q1, q2⟩ := byteL_sim (P := P) h3 ho k1 k3
      rw [k2] at q1
      exact ⟨q1, k5.trans q2⟩
    | isl0 _ _ _ c ad =>
      unfold readCells at h2
      obtain ⟨_, s3, h7, h8, ho3, _, _⟩ := M.bind_did h2 ho1
      obtain ⟨hb, e2⟩ := ob_ok h7 ho3
      obtain ⟨rfl, rfl⟩ := pure_ok h8
      unfold byteL at h3
      obtain ⟨_, s2, h4, h5, ho2, _, _⟩ := M.bind_did h3 ho
      obtain ⟨_, e1⟩ := ob_ok h4 ho2
      obtain ⟨rfl, rfl⟩ := pure_ok h5
      exact ⟨rfl, e2.trans e1⟩
  | _ => exact (fail_ok h).elim
theorem rl2 {x y : AVal} {xs : Array Value} (h : RL ρ m [x, y] xs) : ∃ a b, xs = #[a, b] ∧ R ρ m x a ∧ R ρ m y b := by
  obtain ⟨l, r⟩ := h
  obtain ⟨xl⟩ := xs
  match xl with
  | [] => simp at l
  | [_] => simp at l
  | [a, b] => exact ⟨a, b, rfl, r 0 _ _ rfl rfl, r 1 _ _ rfl rfl⟩
  | _ :: _ :: _ :: _ => simp at l
theorem sim_compare {fn : Func} (hf : P.funcs[f]? = some fn) (hname : (fn.name == "runtime.NumGoroutine") = false) (hb : fn.body.isNone = true) (hn : Extern.findNext fn = none) (he : Extern.find fn = some Extern.BytealgCompare.compare) : SimCall P f compareAct := by
  intro args s v s' h ho ρ m w xs hr hfr hx
  unfold compareAct at h
  split at h
  · rename_i x y
    obtain ⟨a, s1, h1, h2, ho1, _, _⟩ := M.bind_did h ho
    obtain ⟨b, s2, h3, h4, ho2, _, _⟩ := M.bind_did h2 ho
    obtain ⟨rfl, rfl⟩ := pure_ok h4
    obtain ⟨xa, xb, rfl, ra, rb⟩ := rl2 hx
    obtain ⟨q1, e1⟩ := bytesA_sim (P := P) h1 ho1 hr ra
    obtain ⟨q2, e2⟩ := bytesA_sim (P := P) h3 ho2 (hr.of_same e1) rb
    refine .inr ⟨_, w, ?_, ρ, Post.of_same hr (e1.trans e2), .int _ _⟩
    rw [run_callFunc_extern hf hname hb hn he]
    change Result.andThen (Sem.run P (do pure (goInt (Extern.BytealgCompare.cmp (← Extern.Bytes.bytesOf xa) (← Extern.Bytes.bytesOf xb)))) w) _ = _
    simp only [Sem.run_bind, q1, q2, Result.andThen_ok, Sem.run_pure, Lib.cmp_eq]
    rfl
  · exact (fail_ok h).elim
/-- Two slices of two blocks, that are no bytes. -/
def overlapsAct (e : TypeId) : List AVal → M AVal
  | [.sl id1 off1 len1 _ _, .sl id2 _ len2 _ _] => (ob ((id1.beq id2).not && (Nat.blt 0 len1 && Nat.blt 0 len2))).bind fun _ =>
      (getB id1).bind (rowK fun c t => (ob (t.beq e)).bind fun _ => (getB id2).bind (rowK fun c2 _ => (ob (Nat.blt 0 c2.size)).bind fun _ => M.pure (.bool false)))
  | _ => fail "overlaps"
theorem sim_overlaps {fn : Func} {tS tR e : TypeId} {size : Nat} (hf : P.funcs[f]? = some fn) (hname : (fn.name == "runtime.NumGoroutine") = false) (hb : fn.body.isNone = true) (hn : Extern.findNext fn = none)
    (he : Extern.find fn = some (Extern.SlicesOverlaps.overlaps #[tS, tS] #[tR])) (ht : P.underlying tS = some (.slice e)) (hz : ∀ w, (Go.sizeOf e).run P w = .ok size w) (hne : P.underlying e ≠ some (.int .u8)) : SimCall P f (overlapsAct e) := by
  intro args s v s' h ho ρ m w xs hr hfr hx
  unfold overlapsAct at h
  split at h
  · rename_i id1 off1 len1 cap1 sz1 id2 off2 len2 cap2 sz2
    obtain ⟨_, s1, h1, h2, ho1, _, _⟩ := M.bind_did h ho
    obtain ⟨hb1, e1⟩ := ob_ok h1 ho1
    simp only [Bool.and_eq_true, Bool.not_eq_true'] at hb1
    obtain ⟨hid, hl1, hl2⟩ := hb1
    have hid : id1 ≠ id2 := fun e => by subst e; simp at hid
    have hl1 : 0 < len1 := Nat.le_of_ble_eq_true hl1
    have hl2 : 0 < len2 := Nat.le_of_ble_eq_true hl2
    obtain ⟨b1, s2, h3, h4, ho2, _, _⟩ := M.bind_did h2 ho
    obtain ⟨hg1, e2⟩ := get_ok h3
    obtain ⟨c1, t1, rfl, h5⟩ := row_ok h4
    obtain ⟨_, s3, h6, h7, ho3, _, _⟩ := M.bind_did h5 ho
    obtain ⟨hte, e3⟩ := ob_ok h6 ho3
    obtain rfl := Nat.eq_of_beq_eq_true hte
    obtain ⟨b2, s4, h8, h9, ho4, _, _⟩ := M.bind_did h7 ho
    obtain ⟨hg2, e4⟩ := get_ok h8
    obtain ⟨c2, t2, rfl, h10⟩ := row_ok h9
    obtain ⟨_, s5, h11, h12, ho5, _, _⟩ := M.bind_did h10 ho
    obtain ⟨hc2, e5⟩ := ob_ok h11 ho5
    have hc2 : 0 < c2.size := Nat.le_of_ble_eq_true hc2
    obtain ⟨rfl, rfl⟩ := pure_ok h12
    obtain ⟨xa, xb, rfl, ra, rb⟩ := rl2 hx
    have hg1 : s.heap.get id1 = some (.row c1 t1) := by rw [← e1.heap]; exact hg1
    have hg2 : s.heap.get id2 = some (.row c2 t2) := by rw [← e1.heap, ← e2.heap, ← e3.heap]; exact hg2
    have slr : ∀ {id off len cap sz x}, R ρ m (.sl id off len cap sz) x → 0 < len → ∃ r cc, ρ id = some r ∧ x = .slice (some ⟨r.b, off, none⟩) len cc := by
      intro id off len cap sz x hx hl
      cases hx with
      | slx _ _ _ c _ r hρ hl => exact ⟨r, _, hρ, rfl⟩
      | slw _ _ _ c _ r hρ hl hs hc => exact ⟨r, _, hρ, rfl⟩
      | sl0 _ _ _ _ ad hc hn => exact absurd hl (Nat.lt_irrefl _)
    obtain ⟨r1, cc1, hρ1, rfl⟩ := slr ra hl1
    obtain ⟨r2, cc2, hρ2, rfl⟩ := slr rb hl2
    obtain ⟨arr1, fr1, k1, k2, k3, k4, k5, k6, k7⟩ := hr.row hg1 hρ1
    obtain ⟨arr2, fr2, q1, q2, q3, q4, q5, q6, q7⟩ := hr.row hg2 hρ2
    have hbb : r1.b ≠ r2.b := fun e => hid (hr.inj id1 id2 _ _ r1 r2 hg1 hg2 hρ1 hρ2 e)
    have hfr1 : fr1.1 = fr1.2 := k6.elim id fun q => absurd q.2 hne
    have hfz : ∀ j, w.frozen? ⟨r1.b, j, none⟩ = false := fun j => by
      unfold World.frozen?
      obtain ⟨lo, hi⟩ := fr1
      simp only at hfr1
      subst hfr1
      rw [k1]
      simp only [Bool.and_eq_false_iff, decide_eq_false_iff_not]
      omega
    have hs1 : w.shape? r1.b = some (t1, arr1.size) := by unfold World.shape?; rw [k1]
    have hs2 : w.shape? r2.b = some (t2, arr2.size) := by unfold World.shape?; rw [q1]
    refine .inr ⟨_, w, ?_, ρ, Post.of_same hr (((e1.trans e2).trans (e3.trans e4)).trans e5), .bool _⟩
    rw [run_callFunc_extern hf hname hb hn he, Lib.run_overlaps_apart w tS tR t1 ht size hz ⟨r1.b, off1, none⟩ ⟨r2.b, off2, none⟩ len1 cc1 len2 cc2 hbb t1 t2 arr1.size arr2.size hs1 hs2 (by omega) (hfz _) (hfz _)]
    rfl
  · exact (fail_ok h).elim
end
/-- The bytes of what stands for bytes. -/
theorem Bytes.all {α : Type} {h : Hp} {n : Nat} {v : AVal} {l : List UInt8} (hb : Bytes h v l) {f : List UInt8 → M α} {Q : α → Hp → Nat → Prop} : Wp ((bytesA v).bind f) h n Q ↔ Wp (f l) h n Q := by
  cases hb with
  | nils => simp only [bytesA, bind_pure]
  | isl g off l hf =>
    simp only [bytesA, readCells, byteL, sameSz, bind_assoc, bind_pure, wp_ob, show (Nat.beq 1 1) = true from rfl]
    rw [cellsOf_eq g l.length off (l.map u8) (by simp) (fun j hj => by rw [hf j (by simpa using hj)]; simp)]
    simp only [allByte, toByte_u8, true_and, Nat.ble_self_eq_true]
  | sl id off cap c e l hh hs hc =>
    simp only [bytesA, readCells, byteL, sameSz, bind_assoc, wp_get, hh, Option.some.injEq, exists_eq_left', rowK, wp_ob, show (Nat.beq 1 1) = true from rfl, bind_pure]
    have := Cont.sub_eq (c := c) (off := off) (l := l.map u8) (by simpa using hs) (fun j hj => by rw [hc j (by simpa using hj)]; simp)
    simp only [List.length_map] at this
    simp only [this, allByte, toByte_u8, true_and]
    simp [hs]
theorem wp_compare {h : Hp} {n : Nat} {x y : AVal} {a b : List UInt8} (hx : Bytes h x a) (hy : Bytes h y b) {Q : AVal → Hp → Nat → Prop} : Wp (compareAct [x, y]) h n Q ↔ Q (.int .i64 (Lib.compareBytes a b)) h n := by
  simp only [compareAct, hx.all, hy.all, wp_pure]
#print axioms sim_overlaps
end Go.Am
