/- The abstract machine. -/
import Derived.Test.YtlgebaofkolkoaaAoR
import Derived.Lib.BytesEntry
import Derived.Lib.Overlaps
import Derived.Laws.Externs
set_option linter.unusedSimpArgs false
set_option linter.unusedVariables false
set_option linter.defProp false
namespace Go.Am
open Go
def lU (cs : List a9) : M (List UInt8) := (ob (cs.all isByte)).bind fun _ => M.pure (cs.map toByte)
def iI : a9 → M (List UInt8)
 | .nils => M.pure []
 | .emp => M.pure []
 | .str l => M.pure l
 | .sl id off len _ sz => bN sz 1 ((bF (.ptr id off) len).bind lU)
 | .isl g sz off len => bN sz 1 ((bF (.ip g (off + len) off) len).bind lU)
 | _ => fail "bytes expected"
def cZ : List a9 → M a9
 | [x, y] => (iI x).bind fun a => (iI y).bind fun b => M.pure (.int .i64 (Lib.compareBytes a b))
 | _ => fail "Compare"
section
variable {P : Program} {f : FuncId} {ρ : Ren} {m : Mem} {s s' : St} {w : World}
theorem yF {cs : List a9} {l : List UInt8} (h : (lU cs).run s = .ok l s') (ho : bU s') {ad : Addr} {xs : List Value} (hc : ∀ j y, xs[j]? = some y → w.cell? (ad.add j) = some y) (hx : RL ρ m cs xs.toArray) :
  (Extern.Bytes.loadBytes ad xs.length .empty).run P w = .ok ⟨⟨l⟩⟩ w ∧ fM s s' := by
 unfold lU at h
 obtain ⟨_, s1, h1, h2, ho1, _, _⟩ := M.aL h ho
 obtain ⟨hall, e1⟩ := eF h1 ho1
 obtain ⟨rfl, rfl⟩ := aE h2
 obtain ⟨ns, b1, b2⟩ := BP hall hx
 have b1' : xs = ns.map (Value.int .u8) := by simpa using b1
 have := Lib.run_loadBytesX (P := P) w ns ad .empty (fun j x hj => hc j _ (by rw [b1', List.getElem?_map, hj]; rfl))
 refine ⟨?_, e1⟩
 rw [b1', List.length_map, this, b2]
 congr 1
 apply ByteArray.ext
 have he0 : ByteArray.empty.data = #[] := rfl
 rw [he0]
 simp [Lib.bytesOf]
theorem wG {a : a9} {l : List UInt8} (h : (iI a).run s = .ok l s') (ho : bU s') (hr : Rel P ρ m s.heap.get w) {x : Value} (hx : R ρ m a x) :
  (Extern.Bytes.bytesOf x).run P w = .ok ⟨⟨l⟩⟩ w ∧ fM s s' := by
 cases a with
 | nils => obtain ⟨rfl, rfl⟩ := aE h; cases hx; exact ⟨rfl, .refl _⟩
 | emp =>
  obtain ⟨rfl, rfl⟩ := aE h
  cases hx with
  | emp ad => cases ad <;> exact ⟨rfl, .refl _⟩
 | str l => obtain ⟨rfl, rfl⟩ := aE h; cases hx; exact ⟨rfl, .refl _⟩
 | sl id off len cap sz =>
  obtain ⟨rfl, h1⟩ := dY h
  obtain ⟨cs, s1, h2, h3, ho1, _, _⟩ := M.aL h1 ho
  have go : ∀ (r : RB) (c : Nat), ρ id = some r → (Extern.Bytes.bytesOf (.slice (some ⟨r.b, off, none⟩) len c)).run P w = .ok ⟨⟨l⟩⟩ w ∧ fM s s' := by
   intro r c hρ
   obtain ⟨ad, xs, e, k1, k2, k3, k4, k5⟩ := gU h2 ho1 hr (.ptr id off r hρ)
   injection e with e
   injection e with e
   subst e
   obtain ⟨q1, q2⟩ := yF (P := P) h3 ho k1 k3
   rw [k2] at q1
   exact ⟨q1, k5.trans q2⟩
  cases hx with
  | slx _ _ _ c _ r hρ hl => exact go r c hρ
  | slw _ _ _ c _ r hρ hl hs hc => exact go r c hρ
  | sl0 _ _ _ _ ad hc hn =>
   have hcs : cs = [] ∧ fM s s1 := by
    unfold bF at h2
    obtain ⟨b, s2, h4, h5, ho2, _, _⟩ := M.aL h2 ho1
    obtain ⟨hg, e1⟩ := dX h4
    obtain ⟨c, t, rfl, h6⟩ := iN h5
    obtain ⟨_, s3, h7, h8, ho3, _, _⟩ := M.aL h6 ho1
    obtain ⟨hb, e2⟩ := eF h7 ho3
    obtain ⟨rfl, rfl⟩ := aE h8
    have := bM.gK (n := 0) (Nat.le_of_ble_eq_true hb)
    exact ⟨List.length_eq_zero_iff.1 this, e1.trans e2⟩
   obtain ⟨rfl, e⟩ := hcs
   unfold lU at h3
   obtain ⟨_, s2, h4, h5, ho2, _, _⟩ := M.aL h3 ho
   obtain ⟨_, e1⟩ := eF h4 ho2
   obtain ⟨rfl, rfl⟩ := aE h5
   exact ⟨rfl, e.trans e1⟩
 | isl g sz off len =>
  obtain ⟨rfl, h1⟩ := dY h
  obtain ⟨cs, s1, h2, h3, ho1, _, _⟩ := M.aL h1 ho
  cases hx with
  | isl _ _ _ _ b o c g' hg hrr hl =>
   obtain ⟨ad, xs, e, k1, k2, k3, k4, k5⟩ := gU h2 ho1 hr (.ip g (off + len) off b o g' (fun j hj => hg j (by omega)) (fun j hj => hrr j (by omega)))
   injection e with e
   injection e with e
   subst e
   obtain ⟨q1, q2⟩ := yF (P := P) h3 ho k1 k3
   rw [k2] at q1
   exact ⟨q1, k5.trans q2⟩
  | isl0 _ _ _ c ad =>
   unfold bF at h2
   obtain ⟨_, s3, h7, h8, ho3, _, _⟩ := M.aL h2 ho1
   obtain ⟨hb, e2⟩ := eF h7 ho3
   obtain ⟨rfl, rfl⟩ := aE h8
   unfold lU at h3
   obtain ⟨_, s2, h4, h5, ho2, _, _⟩ := M.aL h3 ho
   obtain ⟨_, e1⟩ := eF h4 ho2
   obtain ⟨rfl, rfl⟩ := aE h5
   exact ⟨rfl, e2.trans e1⟩
 | _ => exact (aG h).elim
theorem rl2 {x y : a9} {xs : Array Value} (h : RL ρ m [x, y] xs) : ∃ a b, xs = #[a, b] ∧ R ρ m x a ∧ R ρ m y b := by
 obtain ⟨l, r⟩ := h
 obtain ⟨xl⟩ := xs
 match xl with
 | [] => simp at l
 | [_] => simp at l
 | [a, b] => exact ⟨a, b, rfl, r 0 _ _ rfl rfl, r 1 _ _ rfl rfl⟩
 | _ :: _ :: _ :: _ => simp at l
theorem lP {fn : Func} (hf : P.funcs[f]? = some fn) (hname : (fn.name == "runtime.NumGoroutine") = false) (hb : fn.body.isNone = true) (hn : Extern.findNext fn = none) (he : Extern.find fn = some Extern.BytealgCompare.compare) : kH P f cZ := by
 intro args s v s' h ho ρ m w xs hr hfr hx
 unfold cZ at h
 split at h
 ·rename_i x y
  obtain ⟨a, s1, h1, h2, ho1, _, _⟩ := M.aL h ho
  obtain ⟨b, s2, h3, h4, ho2, _, _⟩ := M.aL h2 ho
  obtain ⟨rfl, rfl⟩ := aE h4
  obtain ⟨xa, xb, rfl, ra, rb⟩ := rl2 hx
  obtain ⟨q1, e1⟩ := wG (P := P) h1 ho1 hr ra
  obtain ⟨q2, e2⟩ := wG (P := P) h3 ho2 (hr.of_same e1) rb
  refine .inr ⟨_, w, ?_, ρ, eJ.of_same hr (e1.trans e2), .int _ _⟩
  rw [run_callFunc_extern hf hname hb hn he]
  change Result.andThen (Sem.run P (do pure (goInt (Extern.BytealgCompare.cmp (← Extern.Bytes.bytesOf xa) (← Extern.Bytes.bytesOf xb)))) w) _ = _
  simp only [Sem.run_bind, q1, q2, Result.andThen_ok, Sem.run_pure, Lib.cmp_eq]
  rfl
 ·exact (aG h).elim
def gD (e : TypeId) : List a9 → M a9
 | [.sl id1 off1 len1 _ _, .sl id2 _ len2 _ _] => (ob ((id1.beq id2).not && (Nat.blt 0 len1 && Nat.blt 0 len2))).bind fun _ =>
   (fI id1).bind (cO fun c t => (ob (t.beq e)).bind fun _ => (fI id2).bind (cO fun c2 _ => (ob (Nat.blt 0 c2.size)).bind fun _ => M.pure (.bool false)))
 | _ => fail "overlaps"
theorem qN {fn : Func} {tS tR e : TypeId} {size : Nat} (hf : P.funcs[f]? = some fn) (hname : (fn.name == "runtime.NumGoroutine") = false) (hb : fn.body.isNone = true) (hn : Extern.findNext fn = none)
  (he : Extern.find fn = some (Extern.SlicesOverlaps.overlaps #[tS, tS] #[tR])) (ht : P.underlying tS = some (.slice e)) (hz : ∀ w, (Go.sizeOf e).run P w = .ok size w) (hne : P.underlying e ≠ some (.int .u8)) : kH P f (gD e) := by
 intro args s v s' h ho ρ m w xs hr hfr hx
 unfold gD at h
 split at h
 ·rename_i id1 off1 len1 cap1 sz1 id2 off2 len2 cap2 sz2
  obtain ⟨_, s1, h1, h2, ho1, _, _⟩ := M.aL h ho
  obtain ⟨hb1, e1⟩ := eF h1 ho1
  simp only [Bool.and_eq_true, Bool.not_eq_true'] at hb1
  obtain ⟨hid, hl1, hl2⟩ := hb1
  have hid : id1 ≠ id2 := fun e => by subst e; simp at hid
  have hl1 : 0 < len1 := Nat.le_of_ble_eq_true hl1
  have hl2 : 0 < len2 := Nat.le_of_ble_eq_true hl2
  obtain ⟨b1, s2, h3, h4, ho2, _, _⟩ := M.aL h2 ho
  obtain ⟨hg1, e2⟩ := dX h3
  obtain ⟨c1, t1, rfl, h5⟩ := iN h4
  obtain ⟨_, s3, h6, h7, ho3, _, _⟩ := M.aL h5 ho
  obtain ⟨hte, e3⟩ := eF h6 ho3
  obtain rfl := Nat.eq_of_beq_eq_true hte
  obtain ⟨b2, s4, h8, h9, ho4, _, _⟩ := M.aL h7 ho
  obtain ⟨hg2, e4⟩ := dX h8
  obtain ⟨c2, t2, rfl, h10⟩ := iN h9
  obtain ⟨_, s5, h11, h12, ho5, _, _⟩ := M.aL h10 ho
  obtain ⟨hc2, e5⟩ := eF h11 ho5
  have hc2 : 0 < c2.size := Nat.le_of_ble_eq_true hc2
  obtain ⟨rfl, rfl⟩ := aE h12
  obtain ⟨xa, xb, rfl, ra, rb⟩ := rl2 hx
  have hg1 : s.heap.get id1 = some (.row c1 t1) := by rw [← e1.heap]; exact hg1
  have hg2 : s.heap.get id2 = some (.row c2 t2) := by rw [← e1.heap, ← e2.heap, ← e3.heap]; exact hg2
  have slr : ∀ {id off len cap sz x}, R ρ m (.sl id off len cap sz) x → 0 < len → ∃ r cc, ρ id = some r ∧ x = .slice (some ⟨r.b, off, none⟩) len cc := by
   intro id off len cap sz x hx hl
   cases hx with
   | slx _ _ _ c _ r hρ hl => exact ⟨r, _, hρ, rfl⟩
   | slw _ _ _ c _ r hρ hl hs hc => exact ⟨r, _, hρ, rfl⟩
   | sl0 _ _ _ _ ad hc hn => exact absurd hl (Nat.lt_irrefl _)
  obtain ⟨r1, cc1, hρ1, rfl⟩ := slr ra hl1
  obtain ⟨r2, cc2, hρ2, rfl⟩ := slr rb hl2
  obtain ⟨arr1, fr1, k1, k2, k3, k4, k5, k6, k7⟩ := hr.row hg1 hρ1
  obtain ⟨arr2, fr2, q1, q2, q3, q4, q5, q6, q7⟩ := hr.row hg2 hρ2
  have hbb : r1.b ≠ r2.b := fun e => hid (hr.inj id1 id2 _ _ r1 r2 hg1 hg2 hρ1 hρ2 e)
  have hfr1 : fr1.1 = fr1.2 := k6.elim id fun q => absurd q.2 hne
  have hfz : ∀ j, w.frozen? ⟨r1.b, j, none⟩ = false := fun j => by
   unfold World.frozen?
   obtain ⟨lo, hi⟩ := fr1
   simp only at hfr1
   subst hfr1
   rw [k1]
   simp only [Bool.and_eq_false_iff, decide_eq_false_iff_not]
   omega
  have hs1 : w.shape? r1.b = some (t1, arr1.size) := by unfold World.shape?; rw [k1]
  have hs2 : w.shape? r2.b = some (t2, arr2.size) := by unfold World.shape?; rw [q1]
  refine .inr ⟨_, w, ?_, ρ, eJ.of_same hr (((e1.trans e2).trans (e3.trans e4)).trans e5), .bool _⟩
  rw [run_callFunc_extern hf hname hb hn he, Lib.run_overlaps_apart w tS tR t1 ht size hz ⟨r1.b, off1, none⟩ ⟨r2.b, off2, none⟩ len1 cc1 len2 cc2 hbb t1 t2 arr1.size arr2.size hs1 hs2 (by omega) (hfz _) (hfz _)]
  rfl
 ·exact (aG h).elim
end
theorem Bytes.all {α : Type} {h : Hp} {n : Nat} {v : a9} {l : List UInt8} (hb : Bytes h v l) {f : List UInt8 → M α} {Q : α → Hp → Nat → Prop} : Wp ((iI v).bind f) h n Q ↔ Wp (f l) h n Q := by
 cases hb with
 | nils => simp only [iI, bind_pure]
 | isl g off l hf =>
  simp only [iI, bF, lU, bN, bind_assoc, bind_pure, eL, show (Nat.beq 1 1) = true from rfl]
  rw [jL g l.length off (l.map u8) (by simp) (fun j hj => by rw [hf j (by simpa using hj)]; simp)]
  simp only [rV, kJ, true_and, Nat.ble_self_eq_true]
 | sl id off cap c e l hh hs hc =>
  simp only [iI, bF, lU, bN, bind_assoc, eW, hh, Option.some.injEq, exists_eq_left', cO, eL, show (Nat.beq 1 1) = true from rfl, bind_pure]
  have := bM.sub_eq (c := c) (off := off) (l := l.map u8) (by simpa using hs) (fun j hj => by rw [hc j (by simpa using hj)]; simp)
  simp only [List.length_map] at this
  simp only [this, rV, kJ, true_and]
  simp [hs]
end Go.Am
