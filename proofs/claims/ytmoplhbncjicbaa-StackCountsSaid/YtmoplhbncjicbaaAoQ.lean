/- Rows of whatever cells: what is read, written, copied as a whole. -/
import Derived.Test.YtmoplhbncjicbaaAoP
set_option linter.unusedSimpArgs false
set_option linter.unusedVariables false
set_option linter.defProp false
namespace Go.Am
open Go Go.RowKit
variable {E : Env} {fn : FuncId} {rnd : Option Nat} {Q : Post0} {ks : List Kf} {tm : List AVal} {h : Hp} {n : Nat} {ops rest : List Oper} {d : Option Tmp}
/-- A block that holds these cells. -/
def Row (h : Hp) (id : Nat) (xs : List AVal) : Prop := ∃ e, h id = some (.row (.l xs) e)
theorem Row.keep {h h' : Hp} {id : Nat} {xs : List AVal} (hr : Row h id xs) (hk : h' id = h id) : Row h' id xs := by
  obtain ⟨e, he⟩ := hr
  exact ⟨e, hk.trans he⟩
theorem Row.upd {h : Hp} {id i : Nat} {xs : List AVal} {b : Option Blk} (hr : Row h id xs) (hk : id ≠ i) : Row (Go.Am.upd h i b) id xs := hr.keep (upd_ne _ _ hk)
theorem Row.new (h : Hp) (id : Nat) (xs : List AVal) (e : TypeId) : Row (Go.Am.upd h id (some (.row (.l xs) e))) id xs := ⟨e, upd_same _ _ _⟩
def splice (xs : List AVal) (off : Nat) (vs : List AVal) : List AVal := xs.take off ++ (vs ++ xs.drop (off + vs.length))
theorem splice_len {xs vs : List AVal} {off : Nat} (h : off + vs.length ≤ xs.length) : (splice xs off vs).length = xs.length := by
  unfold splice
  simp only [List.length_append, List.length_take, List.length_drop]
  omega
theorem splice_all {xs vs : List AVal} (h : vs.length = xs.length) : splice xs 0 vs = vs := by
  unfold splice
  rw [List.take_zero, List.nil_append, Nat.zero_add, h, List.drop_length, List.append_nil]
theorem spq_get {xs vs : List AVal} {off : Nat} (h : off + vs.length ≤ xs.length) (j : Nat) : (splice xs off vs)[j]? = if off ≤ j ∧ j < off + vs.length then vs[j - off]? else xs[j]? := by
  unfold splice
  by_cases a : j < off
  · rw [if_neg (by omega), List.getElem?_append_left (by rw [List.length_take]; omega), List.getElem?_take, if_pos a]
  · rw [List.getElem?_append_right (by rw [List.length_take]; omega), List.length_take, Nat.min_eq_left (by omega)]
    by_cases b : j < off + vs.length
    · rw [if_pos (by omega), List.getElem?_append_left (by omega)]
    · rw [if_neg (by omega), List.getElem?_append_right (by omega), List.getElem?_drop]
      congr 1; omega
theorem nthq_get : ∀ (xs : List AVal) (j : Nat), j < xs.length → xs[j]? = some (nth xs j .junk)
  | [], j, h => by simp at h
  | a :: xs, 0, _ => rfl
  | a :: xs, j + 1, h => by
    rw [List.getElem?_cons_succ]
    simp only [nth]
    exact nthq_get xs j (by simpa using h)
theorem setAll_l (vs : List AVal) : ∀ (xs : List AVal) (off : Nat), off + vs.length ≤ xs.length → setAll (.l xs) off vs = .l (splice xs off vs) := by
  induction vs with
  | nil =>
    intro xs off h
    simp [setAll, splice]
  | cons v vs ih =>
    intro xs off h
    simp only [List.length_cons] at h
    simp only [setAll, Cont.set]
    rw [ih (put xs off v) (off + 1) (by rw [put_len]; omega)]
    congr 1
    refine List.ext_getElem? fun j => ?_
    rw [spq_get (by rw [put_len]; omega), spq_get (by simp only [List.length_cons]; omega), put_at]
    by_cases a : j = off
    · subst a
      rw [if_neg (by omega), if_pos (by omega), if_pos (by simp), Nat.sub_self]; rfl
    · by_cases b : off + 1 ≤ j ∧ j < off + 1 + vs.length
      · rw [if_pos b, if_pos (by simp only [List.length_cons]; omega), show j - off = (j - (off + 1)) + 1 by omega, List.getElem?_cons_succ]
      · have : (v :: vs).length = vs.length + 1 := rfl
        rw [if_neg b, if_neg (by omega), if_neg (by omega)]
theorem Row.one {id off : Nat} {t : TypeId} {i : TI} {cs : List AVal} {x : AVal} (hr : Row h id cs) (hc : cs[off]? = some x) (hi : ti E t = M.pure i) (ha : aggB i.desc = false) : Rd (Go.Am.load E t (.ptr id off)) h n [id] x := by
  obtain ⟨e, hh⟩ := hr
  exact cell_rd hh hc hi ha
theorem Row.agg {id off : Nat} {t : TypeId} {i : TI} {cs : List AVal} (hr : Row h id cs) (hi : ti E t = M.pure i) (ha : aggB i.desc = true) (ho : off + i.size ≤ cs.length) : Rd (Go.Am.load E t (.ptr id off)) h n [id] (.agg ((cs.drop off).take i.size)) := by
  obtain ⟨e, hh⟩ := hr
  simp only [Go.Am.load, hi, bind_pure, ha, readCells, bind_assoc]
  refine Rd.bind (i2 := []) (Rd.get hh) ?_
  simp only [rowK, bind_assoc, Cont.size, Cont.sub]
  refine Rd.bind (i2 := []) (Rd.ob (ble_of ho)) ?_
  exact Rd.pure _
theorem Row.whole {id : Nat} {t : TypeId} {i : TI} {cs : List AVal} (hr : Row h id cs) (hi : ti E t = M.pure i) (ha : aggB i.desc = true) (ho : cs.length = i.size) : Rd (Go.Am.load E t (.ptr id 0)) h n [id] (.agg cs) := by
  have := hr.agg (n := n) (off := 0) hi ha (by omega)
  rwa [List.drop_zero, ← ho, List.take_length] at this
theorem Row.write {id off e : Nat} {t : TypeId} {i : TI} {cs : List AVal} {v : AVal} (hh : h id = some (.row (.l cs) e)) (hi : ti E t = M.pure i) (hs : v.cells.length = i.size) (ho : off + i.size ≤ cs.length) (hc : v.cells.all oneCell = true) :
    Wr (doStore E t (.ptr id off) v) h n [id] [id] undef (Go.Am.upd h id (some (.row (.l (splice cs off v.cells)) e))) := by
  simp only [doStore, Go.Am.store, hi, bind_pure, hs, Nat.beq_refl, writeCells]
  refine Wr.ret (a := ()) ?_
  refine Wr.bind (rs := []) (Rd.get hh) ?_
  simp only [rowK, Cont.size]
  refine Wr.bind (rs := []) (i1 := []) (Rd.ob (ble_of (by omega))) ?_
  simp only [hc]
  rw [setAll_l _ _ _ (by omega)]
  exact Wr.set hh
theorem Wr.wp {α : Type} {m : M α} {rs ws : List Nat} {v : α} {h2 : Hp} (hr : Wr m h n rs ws v h2) : Wp m h n fun a h' n' => a = v ∧ h' = h2 ∧ n' = n := by
  obtain ⟨s', o, e, a, b, c, d, w, g, q⟩ := hr.r _ (at0_at h n)
  exact wp_iff.2 ⟨v, s', ⟨e, ⟨o, g, q⟩, c⟩, rfl, a, by rw [b]; rfl⟩
theorem opv_wr {m : M AVal} {rs ws : List Nat} {v : AVal} {h2 : Hp} (hr : Wr m h n rs ws v h2) :
    OpV E fn rnd Q ks ops rest d tm m h n ↔ Ops E fn rnd Q ks ops rest (putT tm d v) h2 n := opv_det hr.wp _ _ _ _ _ _ _ _ _
/-- A new block of a type's zero. -/
theorem opv_alloc {t : TypeId} {i : TI} (hi : ti E t = M.pure i) (hj : isJunk i.zero = false) :
    OpV E fn rnd Q ks ops rest d tm (doAlloc E t) h n ↔ Ops E fn rnd Q ks ops rest (putT tm d (.ptr n 0)) (Go.Am.upd h n (some (.row (.l i.zero.cells) t))) (n + 1) := by
  simp only [doAlloc, zeroOf, hi, bind_pure, alloc, hj, newRow, bind_assoc, opv_new, opv_pure]
/-- An element's address in a slice of elements of whatever size. -/
theorem sl_idx {t e : TypeId} {id off len sz : Nat} {cap : Option Nat} {kk : IntKind} {z : Int} {j : Nat} (ht : und E t = M.pure (.slice e)) (he : sizeOf E e = M.pure sz) (hz : z = (j : Nat)) (hj : j < len) {h' : Hp} {n' : Nat} :
    Rd (indexAddr E t (.sl id off len cap sz) (.int kk z)) h' n' [] (.ptr id (off + j * sz)) := by
  subst hz
  simp only [indexAddr, ht, he, bind_pure, intK, slK, Nat.beq_refl, Go.Am.idx, bind_assoc, Int.toNat_natCast]
  exact Rd.bind (i2 := []) (Rd.ob (by simp; omega)) (Rd.pure _)
theorem isl_idx {t e : TypeId} {off len sz : Nat} {f : Nat → AVal} {kk : IntKind} {z : Int} {j : Nat} (ht : und E t = M.pure (.slice e)) (he : sizeOf E e = M.pure sz) (hz : z = (j : Nat)) (hj : j < len) {h' : Hp} {n' : Nat} :
    Rd (indexAddr E t (.isl f sz off len) (.int kk z)) h' n' [] (.ip f (off + len * sz) (off + j * sz)) := by
  subst hz
  simp only [indexAddr, ht, he, bind_pure, intK, slK, Nat.beq_refl, Go.Am.idx, bind_assoc, Int.toNat_natCast]
  exact Rd.bind (i2 := []) (Rd.ob (by simp; omega)) (Rd.pure _)
theorem repq_len (z : List AVal) : ∀ m, (reps z m).length = m * z.length := by
  intro m
  induction m with
  | zero => simp [reps]
  | succ m ih => simp only [reps, List.length_append, ih, Nat.succ_mul]; omega
theorem repq_get (z : List AVal) : ∀ (m k j : Nat), k < m → j < z.length → (reps z m)[k * z.length + j]? = z[j]? := by
  intro m
  induction m with
  | zero => intro k j hk; omega
  | succ m ih =>
    intro k j hk hj
    simp only [reps]
    cases k with
    | zero => rw [Nat.zero_mul, Nat.zero_add, List.getElem?_append_left hj]
    | succ k =>
      rw [List.getElem?_append_right (by rw [Nat.succ_mul]; omega), show (k + 1) * z.length + j - z.length = k * z.length + j by rw [Nat.succ_mul]; omega]
      exact ih k j (by omega) hj
theorem reps_one {z : List AVal} (hz : z.all oneCell = true) : ∀ m, (reps z m).all oneCell = true := by
  intro m
  induction m with
  | zero => rfl
  | succ m ih => simp only [reps, List.all_append, hz, ih]; rfl
/-- A slice is made. -/
theorem opv_make {t e : TypeId} {i : TI} {k1 k2 : IntKind} {m : Nat} {z : Int} (hz : z = (m : Nat)) (ht : und E t = M.pure (.slice e)) (he : ti E e = M.pure i) (hroom : i.bytes * m ≤ 281474976710656) (hm : m ≤ 9223372036854775807) :
    OpV E fn rnd Q ks ops rest d tm (makeSlice E t (.int k1 z) (.int k2 z)) h n ↔ Ops E fn rnd Q ks ops rest (putT tm d (.sl n 0 m (some m) i.size)) (Go.Am.upd h n (some (.row (.l (reps i.zero.cells m)) e))) (n + 1) := by
  subst hz
  have c0 : (i.bytes : Int) * ((m : Nat) : Int) ≤ 281474976710656 := by
    rw [← Int.natCast_mul]; omega
  have c1 : (decide ((0 : Int) ≤ (m : Nat) ∧ ((m : Nat) : Int) ≤ (m : Nat) ∧ ((m : Nat) : Int) ≤ 9223372036854775807 ∧ (i.bytes : Int) * ((m : Nat) : Int) ≤ 281474976710656)) = true := decide_eq_true ⟨by omega, by omega, by omega, c0⟩
  simp only [makeSlice, ht, he, bind_pure, intK, opv_ob, c1, newRow, bind_assoc, opv_new, opv_pure, Int.toNat_natCast, true_and]
theorem all_get {xs : List AVal} (hx : xs.all oneCell = true) {j : Nat} {x : AVal} (hj : xs[j]? = some x) : oneCell x = true := by
  rw [List.all_eq_true] at hx
  exact hx x (List.mem_of_getElem? hj)
theorem all_of {xs : List AVal} (hx : ∀ (j : Nat) (x : AVal), xs[j]? = some x → oneCell x = true) : xs.all oneCell = true := by
  rw [List.all_eq_true]
  intro x hm
  obtain ⟨j, hj⟩ := List.getElem?_of_mem hm
  exact hx j x hj
theorem splice_one {xs vs : List AVal} {off : Nat} (hx : xs.all oneCell = true) (hv : vs.all oneCell = true) : (splice xs off vs).all oneCell = true := by
  refine all_of fun j x hj => ?_
  unfold splice at hj
  have hm := List.mem_of_getElem? hj
  rw [List.mem_append, List.mem_append] at hm
  rw [List.all_eq_true] at hx hv
  rcases hm with q | q | q
  · exact hx x (List.mem_of_mem_take q)
  · exact hv x q
  · exact hx x (List.mem_of_mem_drop q)
theorem opv_hold {t : TypeId} {i : TI} {z : List AVal} {v : AVal} (hi : ti E t = M.pure i) (hz : z.length = i.size) (hv : v.cells.length = i.size) (h1 : v.cells.all oneCell = true) (hf : Free h n)
    (hq : ∀ H, Row H n v.cells → (∀ j, j ≠ n → H j = h j) → Free H (n + 1) → Ops E fn rnd Q ks ops rest (putT tm d undef) H (n + 1)) :
    OpV E fn rnd Q ks ops rest d tm (doStore E t (.ptr n 0) v) (Go.Am.upd h n (some (.row (.l z) t))) (n + 1) := by
  have hw := Row.write (E := E) (v := v) (n := n + 1) (off := 0) (upd_same h n (some (.row (.l z) t))) hi hv (by omega) h1
  rw [splice_all (hv.trans hz.symm)] at hw
  rw [opv_wr hw]
  exact hq _ (Row.new _ _ _ _) (fun j hj => by rw [upd_ne _ _ hj, upd_ne _ _ hj]) (hf.new.upd (by omega))
theorem opv_box {t : TypeId} {i : TI} {v : AVal} (hi : ti E t = M.pure i) (hj : isJunk v = false) (hf : Free h n)
    (hq : ∀ H, Row H n v.cells → (∀ j, j ≠ n → H j = h j) → Free H (n + 1) → Ops E fn rnd Q ks ops rest (putT tm d (.ptr n 0)) H (n + 1)) :
    OpV E fn rnd Q ks ops rest d tm (alloc E t v) h n := by
  simp only [alloc, hj, newRow, hi, bind_pure, bind_assoc, opv_new, opv_pure]
  exact hq _ (Row.new _ _ _ _) (fun j hj => upd_ne _ _ hj) hf.new
/-! ### A call that looks at some blocks alone -/
def only (S : Nat → Bool) (h : Hp) : Hp := fun j => match S j with
  | true => h j
  | false => none
theorem only_in {S : Nat → Bool} {h : Hp} {j : Nat} (hj : S j = true) : only S h j = h j := by simp only [only, hj]
theorem only_out {S : Nat → Bool} {h : Hp} {j : Nat} (hj : S j = false) : only S h j = none := by simp only [only, hj]
def lowS (n : Nat) : Nat → Bool := fun j => j.blt n
theorem lowS_in {n j : Nat} (h : j < n) : lowS n j = true := Nat.ble_eq_true_of_le h
theorem lowS_out {n j : Nat} (h : n ≤ j) : lowS n j = false := blit_of (by omega)
theorem Row.only {S : Nat → Bool} {h : Hp} {id : Nat} {xs : List AVal} (hr : Row h id xs) (hs : S id = true) : Row (Go.Am.only S h) id xs := hr.keep (only_in hs)
theorem Free.only {S : Nat → Bool} {h : Hp} {n : Nat} (hf : Free h n) : Free (Go.Am.only S h) n := fun id hi => by
  cases hs : S id with
  | true => rw [only_in hs]; exact hf id hi
  | false => exact only_out hs
theorem frame_foot {m : M AVal} {Q0 : AVal → Hp → Nat → Prop} {S : Nat → Bool} (j : Nat) (hf : Free h n) (hw0 : Wp m (only S h) n Q0) :
    ∃ v s' r w, (foot j m).run (at0 h n) = .ok (v, ⟨j, r, w, n, s'.next⟩) s' ∧ (∃ o, s'.obs = o ++ (at0 h n).obs ∧ o.all id = true) ∧ s'.orc = none ∧ n ≤ s'.next ∧ Free s'.heap.get s'.next ∧
      (∀ id, id ∈ r → S id = true) ∧ (∀ id, id ∈ w → S id = true) ∧ (∀ k, k < n → S k = false → s'.heap.get k = h k) ∧
      ∃ hr, Q0 v hr s'.next ∧ (∀ k, S k = true ∨ n ≤ k → s'.heap.get k = hr k) := by
  obtain ⟨v, s0, he0, hq0, hn0, hf0⟩ := wp_iff.1 (hw0.free hf.only)
  obtain ⟨r, w, o, dd⟩ := m.loc _ _ _ he0.run
  have hrn : ∀ id, id ∈ r → S id = true ∨ New (at0 (only S h) n) s0 id := fun id hid => by
    rcases dd.rlive id hid with hh | hh
    · refine .inl ?_
      cases hs : S id with
      | true => rfl
      | false => exact absurd (only_out hs) hh
    · exact .inr hh
  have hwn : ∀ id, id ∈ w → S id = true ∨ New (at0 (only S h) n) s0 id := fun id hid => by
    rcases dd.live id hid with hh | hh
    · refine .inl ?_
      cases hs : S id with
      | true => rfl
      | false => exact absurd (only_out hs) hh
    · exact .inr hh
  have same : ∀ id, S id = true ∨ New (at0 (only S h) n) s0 id → h id = only S h id := fun id hid => by
    rcases hid with hid | hid
    · rw [only_in hid]
    · rw [hf id hid.1, hf.only id hid.1]
  obtain ⟨t', e, g1, g2, g3, g4, g5, g6, g7⟩ := dd.again { at0 h n with rds := [], wrs := [] } rfl rfl (fun id hid => by
    refine same id ?_
    rcases hid with hid | hid | hid
    · exact hrn id hid
    · exact hwn id hid
    · exact .inr hid)
  have e' : m.run { at0 h n with rds := [], wrs := [] } = .ok v t' := e
  have hfoot : (foot j m).run (at0 h n) = .ok (v, ⟨j, t'.rds.filter (old n t'.next), t'.wrs.filter (old n t'.next), n, t'.next⟩) { t' with rds := t'.rds ++ (at0 h n).rds, wrs := t'.wrs ++ (at0 h n).wrs } := by
    simp only [foot, footF, e']; rfl
  have hq : ∀ l : List Nat, (∀ id, id ∈ l → S id = true ∨ New (at0 (only S h) n) s0 id) → ∀ id, id ∈ l.filter (old n t'.next) → S id = true := fun l hl id hid => by
    obtain ⟨h1, h2⟩ := List.mem_filter.1 hid
    rcases hl id h1 with q | q
    · exact q
    · exfalso
      unfold old at h2
      have q1 : n ≤ id := q.1
      have q2 := q.2
      rw [g1] at h2
      rcases Bool.or_eq_true_iff.1 h2 with a | a
      · have := Nat.le_of_ble_eq_true a; omega
      · have := Nat.le_of_ble_eq_true a; omega
  have ho : ∃ o, t'.obs = o ++ (at0 h n).obs ∧ o.all id = true := by
    obtain ⟨o2, ho2, ho3⟩ := he0.obs
    have : o = o2 := by
      have := dd.obs
      rw [ho2] at this
      exact (List.append_cancel_right this).symm
    exact ⟨o, g5, by rw [this]; exact ho3⟩
  have g3' : t'.rds = r := by rw [g3]; exact List.append_nil _
  have g4' : t'.wrs = w := by rw [g4]; exact List.append_nil _
  refine ⟨v, { t' with rds := t'.rds ++ (at0 h n).rds, wrs := t'.wrs ++ (at0 h n).wrs }, _, _, hfoot, ho, by show t'.orc = none; rw [g2]; exact he0.oc, by show n ≤ t'.next; rw [g1]; exact hn0, ?_, ?_, ?_, ?_, s0.heap.get, ?_, ?_⟩
  · intro id hid
    show t'.heap.get id = none
    have hid' : s0.next ≤ id := by rw [← g1]; exact hid
    by_cases c : id ∈ w
    · rw [g6 id (.inl c)]; exact hf0 id hid'
    · have c2 : ¬ New (at0 (only S h) n) s0 id := fun q => by have := q.2; omega
      rw [g7 id c c2]
      exact hf id (by omega)
  · exact hq _ (by rw [g3']; exact hrn)
  · exact hq _ (by rw [g4']; exact hwn)
  · intro k hk hs
    show t'.heap.get k = h k
    refine (g7 k (fun q => ?_) (fun q => ?_))
    · rcases hwn k q with q | q
      · rw [hs] at q; cases q
      · have q1 : n ≤ k := q.1; omega
    · have q1 : n ≤ k := q.1; omega
  · rw [show ({ t' with rds := t'.rds ++ (at0 h n).rds, wrs := t'.wrs ++ (at0 h n).wrs } : St).next = s0.next from g1]
    exact hq0
  · intro k hk
    show t'.heap.get k = s0.heap.get k
    by_cases c : k ∈ w ∨ New (at0 (only S h) n) s0 k
    · exact g6 k c
    · simp only [not_or] at c
      rw [g7 k c.1 c.2, dd.rest k c.1 c.2]
      show h k = only S h k
      rcases hk with hk | hk
      · rw [only_in hk]
      · rw [hf k hk, hf.only k hk]
/-- A call in a region that draws: it looks at, and writes, blocks of S alone. -/
theorem fev_in {j : Nat} {fs : List Foot} {m : M AVal} {Q0 : AVal → Hp → Nat → Prop} (S : Nat → Bool) (hf : Free h n) (hw0 : Wp m (only S h) n Q0)
    (hq : ∀ v h' n' r w hr, n ≤ n' → Free h' n' → Q0 v hr n' → (∀ k, S k = true ∨ n ≤ k → h' k = hr k) → (∀ k, k < n → S k = false → h' k = h k) → (∀ id, id ∈ r → S id = true) → (∀ id, id ∈ w → S id = true) →
      Fe E fn rnd Q ks ops (j + 1) rest (putT tm d v) (⟨j, r, w, n, n'⟩ :: fs) h' n') : FeV E fn rnd Q ks ops j rest d tm fs m h n := by
  unfold FeV
  obtain ⟨v, s', r, w, h1, h2, h3, h4, h5, h6, h7, h8, hr, h9, h10⟩ := frame_foot j hf hw0
  exact wp_iff.2 ⟨_, _, ⟨h1, h2, h3⟩, hq v _ _ r w hr h4 h5 h9 h10 h8 h6 h7⟩
theorem meets_out {x : Nat} {w : List Nat} (h : x ∉ w) : meets [x] w = false := by
  unfold meets
  rw [List.any_cons, List.any_nil, Bool.or_false, List.any_eq_false]
  intro y hy
  rw [beq_of (fun e => h (by rw [e]; exact hy))]; simp
theorem meets_out' {x : Nat} {w : List Nat} (h : x ∉ w) : meets w [x] = false := by
  unfold meets
  rw [List.any_eq_false]
  intro y hy
  rw [List.any_cons, List.any_nil, Bool.or_false, beq_of (fun e => h (by rw [← e]; exact hy))]; simp
theorem hits_one {x : Nat} {f : Foot} (h : x < f.lo ∨ f.hi ≤ x) : hits [x] f = false := by
  unfold hits
  cases f.lo.beq f.hi with
  | true => rfl
  | false =>
    simp only [List.any_cons, List.any_nil, Bool.or_false, within]
    rcases h with h | h
    · rw [blit_of (by omega)]; rfl
    · rw [show x.blt f.hi = false from blit_of (by omega), Bool.and_false]
/-- One that looks at x, and one that writes what x is not. -/
theorem clash_xs {i j a b m x : Nat} {r w : List Nat} (h : x < a ∨ b ≤ x) (hx : x ∉ w) : clash ⟨i, [x], [], m, m⟩ ⟨j, r, w, a, b⟩ = false := by
  unfold clash
  simp only [meets_nil, meets_out hx, hits_one (x := x) (f := ⟨j, r, w, a, b⟩) h, hits_nil, hits_same, Bool.or_false]
theorem clash_sx {i j a b m x : Nat} {r w : List Nat} (h : x < a ∨ b ≤ x) (hx : x ∉ w) : clash ⟨j, r, w, a, b⟩ ⟨i, [x], [], m, m⟩ = false := by
  unfold clash
  simp only [meets_nil', meets_out' hx, hits_one (x := x) (f := ⟨j, r, w, a, b⟩) h, hits_nil, hits_same, Bool.or_false]
theorem not_in {S : Nat → Bool} {w : List Nat} {x : Nat} (hw : ∀ id, id ∈ w → S id = true) (hx : S x = false) : x ∉ w := fun q => by
  have := hw x q
  rw [hx] at this; cases this
/-- What holds of the blocks of S alone holds beside others, which stay as they are. -/
theorem Wp.frame {α : Type} {m : M α} {Q0 : α → Hp → Nat → Prop} (S : Nat → Bool) (hf : Free h n) (hw0 : Wp m (only S h) n Q0) :
    Wp m h n fun v h' n' => n ≤ n' ∧ Free h' n' ∧ (∀ k, k < n → S k = false → h' k = h k) ∧ ∃ hr, Q0 v hr n' ∧ (∀ k, S k = true ∨ n ≤ k → h' k = hr k) := by
  obtain ⟨v, s0, he0, hq0, hn0, hf0⟩ := wp_iff.1 (hw0.free hf.only)
  obtain ⟨r, w, o, dd⟩ := m.loc _ _ _ he0.run
  have hrn : ∀ id, id ∈ r → S id = true ∨ New (at0 (only S h) n) s0 id := fun id hid => by
    rcases dd.rlive id hid with hh | hh
    · refine .inl ?_
      cases hs : S id with
      | true => rfl
      | false => exact absurd (only_out hs) hh
    · exact .inr hh
  have hwn : ∀ id, id ∈ w → S id = true ∨ New (at0 (only S h) n) s0 id := fun id hid => by
    rcases dd.live id hid with hh | hh
    · refine .inl ?_
      cases hs : S id with
      | true => rfl
      | false => exact absurd (only_out hs) hh
    · exact .inr hh
  have same : ∀ id, S id = true ∨ New (at0 (only S h) n) s0 id → h id = only S h id := fun id hid => by
    rcases hid with hid | hid
    · rw [only_in hid]
    · rw [hf id hid.1, hf.only id hid.1]
  obtain ⟨t', e, g1, g2, g3, g4, g5, g6, g7⟩ := dd.again (at0 h n) rfl rfl (fun id hid => by
    refine same id ?_
    rcases hid with hid | hid | hid
    · exact hrn id hid
    · exact hwn id hid
    · exact .inr hid)
  have ho : ∃ o, t'.obs = o ++ (at0 h n).obs ∧ o.all id = true := by
    obtain ⟨o2, ho2, ho3⟩ := he0.obs
    have : o = o2 := by
      have := dd.obs
      rw [ho2] at this
      exact (List.append_cancel_right this).symm
    exact ⟨o, g5, by rw [this]; exact ho3⟩
  refine wp_iff.2 ⟨v, t', ⟨e, ho, by rw [g2]; exact he0.oc⟩, by rw [g1]; exact hn0, ?_, ?_, s0.heap.get, ?_, ?_⟩
  · intro id hid
    have hid' : s0.next ≤ id := by rw [← g1]; exact hid
    by_cases c : id ∈ w
    · rw [g6 id (.inl c)]; exact hf0 id hid'
    · have c2 : ¬ New (at0 (only S h) n) s0 id := fun q => by have := q.2; omega
      rw [g7 id c c2]
      exact hf id (by omega)
  · intro k hk hs
    refine (g7 k (fun q => ?_) (fun q => ?_))
    · rcases hwn k q with q | q
      · rw [hs] at q; cases q
      · have q1 : n ≤ k := q.1; omega
    · have q1 : n ≤ k := q.1; omega
  · rw [g1]; exact hq0
  · intro k hk
    by_cases c : k ∈ w ∨ New (at0 (only S h) n) s0 k
    · exact g6 k c
    · simp only [not_or] at c
      rw [g7 k c.1 c.2, dd.rest k c.1 c.2]
      show h k = only S h k
      rcases hk with hk | hk
      · rw [only_in hk]
      · rw [hf k hk, hf.only k hk]
theorem opv_in {m : M AVal} {Q0 : AVal → Hp → Nat → Prop} (S : Nat → Bool) (hf : Free h n) (hw0 : Wp m (only S h) n Q0)
    (hq : ∀ v h' n' hr, n ≤ n' → Free h' n' → Q0 v hr n' → (∀ k, S k = true ∨ n ≤ k → h' k = hr k) → (∀ k, k < n → S k = false → h' k = h k) → Ops E fn rnd Q ks ops rest (putT tm d v) h' n') :
    OpV E fn rnd Q ks ops rest d tm m h n :=
  wp_mono (hw0.frame S hf) fun v h' n' ⟨a, b, c, hr, q, e⟩ => hq v h' n' hr a b q e c
end Go.Am
