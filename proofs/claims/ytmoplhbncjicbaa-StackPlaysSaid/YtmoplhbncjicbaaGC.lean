/- What the statement reaches, gone through; and the abstract machine that goes through it. -/
import Derived.Test.YtmoplhbncjicbaaGB
import Derived.Lib.BytesEntry
import Derived.Lib.Overlaps
import Derived.Laws.Externs
import Derived.KernelRfl
import Derived.Test.YtmoplhbncjicbaaProg
set_option linter.unusedSimpArgs false
set_option linter.unusedVariables false
set_option linter.defProp false
namespace Go.Am
open Go Go.RowKit
variable {E : Env} {fn : FuncId} {rnd : Option Nat} {Q : Post0} {ks : List Kf} {tm : List AVal} {h : Hp} {n : Nat} {ops rest : List Oper} {d : Option Tmp}
def cellsF (k : IntKind) (m : Nat) (g : Nat → Int) : List AVal := (List.range m).map fun j => .int k (g j)
theorem cellsF_len (k : IntKind) (m : Nat) (g : Nat → Int) : (cellsF k m g).length = m := by simp [cellsF]
theorem cellsF_get (k : IntKind) {m j : Nat} (g : Nat → Int) (hj : j < m) : (cellsF k m g)[j]? = some (.int k (g j)) := by
 unfold cellsF
 rw [List.getElem?_map, List.getElem?_range hj]; rfl
theorem put_at (xs : List AVal) (v : AVal) : ∀ (i j : Nat), (put xs i v)[j]? = if j = i ∧ i < xs.length then some v else xs[j]? := by
 induction xs with
 | nil => intro i j; simp [put]
 | cons a xs ih =>
  intro i j
  cases i with
  | zero => cases j <;> simp [put]
  | succ i =>
   cases j with
   | zero => simp [put]
   | succ j => simp only [put, List.getElem?_cons_succ, ih i j, List.length_cons]; simp
theorem cellsF_put (k : IntKind) {m i : Nat} (g : Nat → Int) (z : Int) (hi : i < m) : put (cellsF k m g) i (.int k z) = cellsF k m (fun x => if x = i then z else g x) := by
 refine List.ext_getElem? fun j => ?_
 rw [put_at, cellsF_len]
 by_cases hj : j < m
 ·rw [cellsF_get k _ hj]
  by_cases e : j = i
  ·rw [if_pos ⟨e, hi⟩, cellsF_get k _ hj]
   simp only [if_pos e]
  ·rw [if_neg (fun q => e q.1), cellsF_get k _ hj]
   simp only [if_neg e]
 ·rw [if_neg (fun q => hj (by omega)), List.getElem?_eq_none (by rw [cellsF_len]; omega), List.getElem?_eq_none (by rw [cellsF_len]; omega)]
def Nums (k : IntKind) (h : Hp) (v : AVal) (id off m tot : Nat) (g : Nat → Int) : Prop := (∃ cap, v = .sl id off m cap 1) ∧ off + m ≤ tot ∧ ∃ e, h id = some (.row (.l (cellsF k tot g)) e)
theorem Nums.keep {k : IntKind} {v : AVal} {id off m tot : Nat} {g : Nat → Int} {h' : Hp} (hi : Nums k h v id off m tot g) (hk : h' id = h id) : Nums k h' v id off m tot g := by
 obtain ⟨a, b, e, c⟩ := hi
 exact ⟨a, b, e, hk.trans c⟩
theorem Nums.upd {k : IntKind} {v : AVal} {id off m tot i : Nat} {g : Nat → Int} {b : Option Blk} (hi : Nums k h v id off m tot g) (hk : id ≠ i) : Nums k (Go.Am.upd h i b) v id off m tot g := hi.keep (upd_ne _ _ hk)
theorem Nums.len {k : IntKind} {v : AVal} {id off m tot : Nat} {g : Nat → Int} (hi : Nums k h v id off m tot g) {t e : TypeId} {ts : List TypeId} (ht : und E t = M.pure (.slice e)) : bLen E (t :: ts) v = M.pure (.int .i64 (m : Nat)) := by
 obtain ⟨⟨cap, rfl⟩, _⟩ := hi
 simp only [bLen, ht, bind_pure, lenOf]
theorem Nums.idx {k : IntKind} {v : AVal} {id off m tot : Nat} {g : Nat → Int} (hi : Nums k h v id off m tot g) {t e : TypeId} (ht : und E t = M.pure (.slice e)) (he : sizeOf E e = M.pure 1) {kk : IntKind} {z : Int} {j : Nat} (hz : z = (j : Nat)) (hj : j < m) {h' : Hp} {n' : Nat} : Rd (indexAddr E t v (.int kk z)) h' n' [] (.ptr id (off + j)) := by
 obtain ⟨⟨cap, rfl⟩, _⟩ := hi
 subst hz
 simp only [indexAddr, ht, he, bind_pure, intK, slK, Go.Am.idx, bind_assoc, Nat.beq_refl, Int.toNat_natCast, Nat.mul_one]
 exact Rd.bind (i2 := []) (Rd.ob (by simp; omega)) (Rd.pure _)
theorem Nums.load {k : IntKind} {v : AVal} {id off m tot : Nat} {g : Nat → Int} (hi : Nums k h v id off m tot g) {e : TypeId} {i : TI} (he : ti E e = M.pure i) (ha : aggB i.desc = false) {j : Nat} (hj : j < m) : Rd (load E e (.ptr id (off + j))) h n [id] (.int k (g (off + j))) := by
 obtain ⟨_, b, e', c⟩ := hi
 exact cell_rd c (cellsF_get k g (by omega)) he ha
theorem Nums.store {k : IntKind} {v : AVal} {id off m tot : Nat} {g : Nat → Int} (hi : Nums k h v id off m tot g) {e : TypeId} {i : TI} (he : ti E e = M.pure i) (hs : i.size = 1) {j : Nat} (hj : j < m) {z : Int}
  (hq : ∀ b, Nums k (Go.Am.upd h id (some b)) v id off m tot (fun x => if x = off + j then z else g x) → Ops E fn rnd Q ks ops rest (putT tm d undef) (Go.Am.upd h id (some b)) n) :
  OpV E fn rnd Q ks ops rest d tm (doStore E e (.ptr id (off + j)) (.int k z)) h n := by
 obtain ⟨a, b, e', c⟩ := hi
 simp only [doStore, Go.Am.store, he, bind_pure, AVal.cells, hs, List.length_singleton, show Nat.beq 1 1 = true from rfl, writeCells, bind_assoc, OpV, wp_get, c, Option.some.injEq, exists_eq_left', rowK, wp_ob, List.all_cons, List.all_nil, oneCell, Bool.and_true, wp_set, wp_pure, setAll, Cont.size, Cont.set, cellsF_len]
 refine ⟨ble_of (by omega), by simp, hq _ ⟨a, b, e', ?_⟩⟩
 rw [upd_same, cellsF_put k g z (by omega)]
def bit (a j : Nat) : Int := ((a / 2 ^ j % 2 : Nat) : Int)
end Go.Am
set_option linter.unusedSimpArgs false
set_option linter.unusedVariables false
set_option linter.defProp false
namespace Go.Am
open Go Go.RowKit
variable {E : Env} {fn : FuncId} {rnd : Option Nat} {Q : Post0} {ks : List Kf} {tm : List AVal} {h : Hp} {n : Nat} {ops rest : List Oper} {d : Option Tmp}
def Row (h : Hp) (id : Nat) (xs : List AVal) : Prop := ∃ e, h id = some (.row (.l xs) e)
theorem Row.keep {h h' : Hp} {id : Nat} {xs : List AVal} (hr : Row h id xs) (hk : h' id = h id) : Row h' id xs := by
 obtain ⟨e, he⟩ := hr
 exact ⟨e, hk.trans he⟩
theorem Row.upd {h : Hp} {id i : Nat} {xs : List AVal} {b : Option Blk} (hr : Row h id xs) (hk : id ≠ i) : Row (Go.Am.upd h i b) id xs := hr.keep (upd_ne _ _ hk)
theorem Row.new (h : Hp) (id : Nat) (xs : List AVal) (e : TypeId) : Row (Go.Am.upd h id (some (.row (.l xs) e))) id xs := ⟨e, upd_same _ _ _⟩
def splice (xs : List AVal) (off : Nat) (vs : List AVal) : List AVal := xs.take off ++ (vs ++ xs.drop (off + vs.length))
theorem splice_len {xs vs : List AVal} {off : Nat} (h : off + vs.length ≤ xs.length) : (splice xs off vs).length = xs.length := by
 unfold splice
 simp only [List.length_append, List.length_take, List.length_drop]
 omega
theorem spq_get {xs vs : List AVal} {off : Nat} (h : off + vs.length ≤ xs.length) (j : Nat) : (splice xs off vs)[j]? = if off ≤ j ∧ j < off + vs.length then vs[j - off]? else xs[j]? := by
 unfold splice
 by_cases a : j < off
 ·rw [if_neg (by omega), List.getElem?_append_left (by rw [List.length_take]; omega), List.getElem?_take, if_pos a]
 ·rw [List.getElem?_append_right (by rw [List.length_take]; omega), List.length_take, Nat.min_eq_left (by omega)]
  by_cases b : j < off + vs.length
  ·rw [if_pos (by omega), List.getElem?_append_left (by omega)]
  ·rw [if_neg (by omega), List.getElem?_append_right (by omega), List.getElem?_drop]
   congr 1; omega
theorem setAll_l (vs : List AVal) : ∀ (xs : List AVal) (off : Nat), off + vs.length ≤ xs.length → setAll (.l xs) off vs = .l (splice xs off vs) := by
 induction vs with
 | nil =>
  intro xs off h
  simp [setAll, splice]
 | cons v vs ih =>
  intro xs off h
  simp only [List.length_cons] at h
  simp only [setAll, Cont.set]
  rw [ih (put xs off v) (off + 1) (by rw [put_len]; omega)]
  congr 1
  refine List.ext_getElem? fun j => ?_
  rw [spq_get (by rw [put_len]; omega), spq_get (by simp only [List.length_cons]; omega), put_at]
  by_cases a : j = off
  ·subst a
   rw [if_neg (by omega), if_pos (by omega), if_pos (by simp), Nat.sub_self]; rfl
  ·by_cases b : off + 1 ≤ j ∧ j < off + 1 + vs.length
   ·rw [if_pos b, if_pos (by simp only [List.length_cons]; omega), show j - off = (j - (off + 1)) + 1 by omega, List.getElem?_cons_succ]
   ·have : (v :: vs).length = vs.length + 1 := rfl
    rw [if_neg b, if_neg (by omega), if_neg (by omega)]
theorem Row.one {id off : Nat} {t : TypeId} {i : TI} {cs : List AVal} {x : AVal} (hr : Row h id cs) (hc : cs[off]? = some x) (hi : ti E t = M.pure i) (ha : aggB i.desc = false) : Rd (Go.Am.load E t (.ptr id off)) h n [id] x := by
 obtain ⟨e, hh⟩ := hr
 exact cell_rd hh hc hi ha
theorem Row.agg {id off : Nat} {t : TypeId} {i : TI} {cs : List AVal} (hr : Row h id cs) (hi : ti E t = M.pure i) (ha : aggB i.desc = true) (ho : off + i.size ≤ cs.length) : Rd (Go.Am.load E t (.ptr id off)) h n [id] (.agg ((cs.drop off).take i.size)) := by
 obtain ⟨e, hh⟩ := hr
 simp only [Go.Am.load, hi, bind_pure, ha, readCells, bind_assoc]
 refine Rd.bind (i2 := []) (Rd.get hh) ?_
 simp only [rowK, bind_assoc, Cont.size, Cont.sub]
 refine Rd.bind (i2 := []) (Rd.ob (ble_of ho)) ?_
 exact Rd.pure _
theorem Row.whole {id : Nat} {t : TypeId} {i : TI} {cs : List AVal} (hr : Row h id cs) (hi : ti E t = M.pure i) (ha : aggB i.desc = true) (ho : cs.length = i.size) : Rd (Go.Am.load E t (.ptr id 0)) h n [id] (.agg cs) := by
 have := hr.agg (n := n) (off := 0) hi ha (by omega)
 rwa [List.drop_zero, ← ho, List.take_length] at this
theorem Row.write {id off e : Nat} {t : TypeId} {i : TI} {cs : List AVal} {v : AVal} (hh : h id = some (.row (.l cs) e)) (hi : ti E t = M.pure i) (hs : v.cells.length = i.size) (ho : off + i.size ≤ cs.length) (hc : v.cells.all oneCell = true) :
  Wr (doStore E t (.ptr id off) v) h n [id] [id] undef (Go.Am.upd h id (some (.row (.l (splice cs off v.cells)) e))) := by
 simp only [doStore, Go.Am.store, hi, bind_pure, hs, Nat.beq_refl, writeCells]
 refine Wr.ret (a := ()) ?_
 refine Wr.bind (rs := []) (Rd.get hh) ?_
 simp only [rowK, Cont.size]
 refine Wr.bind (rs := []) (i1 := []) (Rd.ob (ble_of (by omega))) ?_
 simp only [hc]
 rw [setAll_l _ _ _ (by omega)]
 exact Wr.set hh
theorem Wr.wp {α : Type} {m : M α} {rs ws : List Nat} {v : α} {h2 : Hp} (hr : Wr m h n rs ws v h2) : Wp m h n fun a h' n' => a = v ∧ h' = h2 ∧ n' = n := by
 obtain ⟨s', o, e, a, b, c, d, w, g, q⟩ := hr.r _ (at0_at h n)
 exact wp_iff.2 ⟨v, s', ⟨e, ⟨o, g, q⟩, c⟩, rfl, a, by rw [b]; rfl⟩
theorem opv_wr {m : M AVal} {rs ws : List Nat} {v : AVal} {h2 : Hp} (hr : Wr m h n rs ws v h2) :
  OpV E fn rnd Q ks ops rest d tm m h n ↔ Ops E fn rnd Q ks ops rest (putT tm d v) h2 n := opv_det hr.wp _ _ _ _ _ _ _ _ _
theorem sl_idx {t e : TypeId} {id off len sz : Nat} {cap : Option Nat} {kk : IntKind} {z : Int} {j : Nat} (ht : und E t = M.pure (.slice e)) (he : sizeOf E e = M.pure sz) (hz : z = (j : Nat)) (hj : j < len) {h' : Hp} {n' : Nat} :
  Rd (indexAddr E t (.sl id off len cap sz) (.int kk z)) h' n' [] (.ptr id (off + j * sz)) := by
 subst hz
 simp only [indexAddr, ht, he, bind_pure, intK, slK, Nat.beq_refl, Go.Am.idx, bind_assoc, Int.toNat_natCast]
 exact Rd.bind (i2 := []) (Rd.ob (by simp; omega)) (Rd.pure _)
theorem isl_idx {t e : TypeId} {off len sz : Nat} {f : Nat → AVal} {kk : IntKind} {z : Int} {j : Nat} (ht : und E t = M.pure (.slice e)) (he : sizeOf E e = M.pure sz) (hz : z = (j : Nat)) (hj : j < len) {h' : Hp} {n' : Nat} :
  Rd (indexAddr E t (.isl f sz off len) (.int kk z)) h' n' [] (.ip f (off + len * sz) (off + j * sz)) := by
 subst hz
 simp only [indexAddr, ht, he, bind_pure, intK, slK, Nat.beq_refl, Go.Am.idx, bind_assoc, Int.toNat_natCast]
 exact Rd.bind (i2 := []) (Rd.ob (by simp; omega)) (Rd.pure _)
theorem all_of {xs : List AVal} (hx : ∀ (j : Nat) (x : AVal), xs[j]? = some x → oneCell x = true) : xs.all oneCell = true := by
 rw [List.all_eq_true]
 intro x hm
 obtain ⟨j, hj⟩ := List.getElem?_of_mem hm
 exact hx j x hj
theorem opv_box {t : TypeId} {i : TI} {v : AVal} (hi : ti E t = M.pure i) (hj : isJunk v = false) (hf : Free h n)
  (hq : ∀ H, Row H n v.cells → (∀ j, j ≠ n → H j = h j) → Free H (n + 1) → Ops E fn rnd Q ks ops rest (putT tm d (.ptr n 0)) H (n + 1)) :
  OpV E fn rnd Q ks ops rest d tm (alloc E t v) h n := by
 simp only [alloc, hj, newRow, hi, bind_pure, bind_assoc, opv_new, opv_pure]
 exact hq _ (Row.new _ _ _ _) (fun j hj => upd_ne _ _ hj) hf.new
def only (S : Nat → Bool) (h : Hp) : Hp := fun j => match S j with
 | true => h j
 | false => none
theorem only_in {S : Nat → Bool} {h : Hp} {j : Nat} (hj : S j = true) : only S h j = h j := by simp only [only, hj]
theorem only_out {S : Nat → Bool} {h : Hp} {j : Nat} (hj : S j = false) : only S h j = none := by simp only [only, hj]
theorem Row.only {S : Nat → Bool} {h : Hp} {id : Nat} {xs : List AVal} (hr : Row h id xs) (hs : S id = true) : Row (Go.Am.only S h) id xs := hr.keep (only_in hs)
theorem Free.only {S : Nat → Bool} {h : Hp} {n : Nat} (hf : Free h n) : Free (Go.Am.only S h) n := fun id hi => by
 cases hs : S id with
 | true => rw [only_in hs]; exact hf id hi
 | false => exact only_out hs
theorem frame_foot {m : M AVal} {Q0 : AVal → Hp → Nat → Prop} {S : Nat → Bool} (j : Nat) (hf : Free h n) (hw0 : Wp m (only S h) n Q0) :
  ∃ v s' r w, (foot j m).run (at0 h n) = .ok (v, ⟨j, r, w, n, s'.next⟩) s' ∧ (∃ o, s'.obs = o ++ (at0 h n).obs ∧ o.all id = true) ∧ s'.orc = none ∧ n ≤ s'.next ∧ Free s'.heap.get s'.next ∧
   (∀ id, id ∈ r → S id = true) ∧ (∀ id, id ∈ w → S id = true) ∧ (∀ k, k < n → S k = false → s'.heap.get k = h k) ∧
   ∃ hr, Q0 v hr s'.next ∧ (∀ k, S k = true ∨ n ≤ k → s'.heap.get k = hr k) := by
 obtain ⟨v, s0, he0, hq0, hn0, hf0⟩ := wp_iff.1 (hw0.free hf.only)
 obtain ⟨r, w, o, dd⟩ := m.loc _ _ _ he0.run
 have hrn : ∀ id, id ∈ r → S id = true ∨ New (at0 (only S h) n) s0 id := fun id hid => by
  rcases dd.rlive id hid with hh | hh
  ·refine .inl ?_
   cases hs : S id with
   | true => rfl
   | false => exact absurd (only_out hs) hh
  ·exact .inr hh
 have hwn : ∀ id, id ∈ w → S id = true ∨ New (at0 (only S h) n) s0 id := fun id hid => by
  rcases dd.live id hid with hh | hh
  ·refine .inl ?_
   cases hs : S id with
   | true => rfl
   | false => exact absurd (only_out hs) hh
  ·exact .inr hh
 have same : ∀ id, S id = true ∨ New (at0 (only S h) n) s0 id → h id = only S h id := fun id hid => by
  rcases hid with hid | hid
  ·rw [only_in hid]
  ·rw [hf id hid.1, hf.only id hid.1]
 obtain ⟨t', e, g1, g2, g3, g4, g5, g6, g7⟩ := dd.again { at0 h n with rds := [], wrs := [] } rfl rfl (fun id hid => by
  refine same id ?_
  rcases hid with hid | hid | hid
  ·exact hrn id hid
  ·exact hwn id hid
  ·exact .inr hid)
 have e' : m.run { at0 h n with rds := [], wrs := [] } = .ok v t' := e
 have hfoot : (foot j m).run (at0 h n) = .ok (v, ⟨j, t'.rds.filter (old n t'.next), t'.wrs.filter (old n t'.next), n, t'.next⟩) { t' with rds := t'.rds ++ (at0 h n).rds, wrs := t'.wrs ++ (at0 h n).wrs } := by
  simp only [foot, footF, e']; rfl
 have hq : ∀ l : List Nat, (∀ id, id ∈ l → S id = true ∨ New (at0 (only S h) n) s0 id) → ∀ id, id ∈ l.filter (old n t'.next) → S id = true := fun l hl id hid => by
  obtain ⟨h1, h2⟩ := List.mem_filter.1 hid
  rcases hl id h1 with q | q
  ·exact q
  ·exfalso
   unfold old at h2
   have q1 : n ≤ id := q.1
   have q2 := q.2
   rw [g1] at h2
   rcases Bool.or_eq_true_iff.1 h2 with a | a
   ·have := Nat.le_of_ble_eq_true a; omega
   ·have := Nat.le_of_ble_eq_true a; omega
 have ho : ∃ o, t'.obs = o ++ (at0 h n).obs ∧ o.all id = true := by
  obtain ⟨o2, ho2, ho3⟩ := he0.obs
  have : o = o2 := by
   have := dd.obs
   rw [ho2] at this
   exact (List.append_cancel_right this).symm
  exact ⟨o, g5, by rw [this]; exact ho3⟩
 have g3' : t'.rds = r := by rw [g3]; exact List.append_nil _
 have g4' : t'.wrs = w := by rw [g4]; exact List.append_nil _
 refine ⟨v, { t' with rds := t'.rds ++ (at0 h n).rds, wrs := t'.wrs ++ (at0 h n).wrs }, _, _, hfoot, ho, by show t'.orc = none; rw [g2]; exact he0.oc, by show n ≤ t'.next; rw [g1]; exact hn0, ?_, ?_, ?_, ?_, s0.heap.get, ?_, ?_⟩
 ·intro id hid
  show t'.heap.get id = none
  have hid' : s0.next ≤ id := by rw [← g1]; exact hid
  by_cases c : id ∈ w
  ·rw [g6 id (.inl c)]; exact hf0 id hid'
  ·have c2 : ¬ New (at0 (only S h) n) s0 id := fun q => by have := q.2; omega
   rw [g7 id c c2]
   exact hf id (by omega)
 ·exact hq _ (by rw [g3']; exact hrn)
 ·exact hq _ (by rw [g4']; exact hwn)
 ·intro k hk hs
  show t'.heap.get k = h k
  refine (g7 k (fun q => ?_) (fun q => ?_))
  ·rcases hwn k q with q | q
   ·rw [hs] at q; cases q
   ·have q1 : n ≤ k := q.1; omega
  ·have q1 : n ≤ k := q.1; omega
 ·rw [show ({ t' with rds := t'.rds ++ (at0 h n).rds, wrs := t'.wrs ++ (at0 h n).wrs } : St).next = s0.next from g1]
  exact hq0
 ·intro k hk
  show t'.heap.get k = s0.heap.get k
  by_cases c : k ∈ w ∨ New (at0 (only S h) n) s0 k
  ·exact g6 k c
  ·simp only [not_or] at c
   rw [g7 k c.1 c.2, dd.rest k c.1 c.2]
   show h k = only S h k
   rcases hk with hk | hk
   ·rw [only_in hk]
   ·rw [hf k hk, hf.only k hk]
theorem fev_in {j : Nat} {fs : List Foot} {m : M AVal} {Q0 : AVal → Hp → Nat → Prop} (S : Nat → Bool) (hf : Free h n) (hw0 : Wp m (only S h) n Q0)
  (hq : ∀ v h' n' r w hr, n ≤ n' → Free h' n' → Q0 v hr n' → (∀ k, S k = true ∨ n ≤ k → h' k = hr k) → (∀ k, k < n → S k = false → h' k = h k) → (∀ id, id ∈ r → S id = true) → (∀ id, id ∈ w → S id = true) →
   Fe E fn rnd Q ks ops (j + 1) rest (putT tm d v) (⟨j, r, w, n, n'⟩ :: fs) h' n') : FeV E fn rnd Q ks ops j rest d tm fs m h n := by
 unfold FeV
 obtain ⟨v, s', r, w, h1, h2, h3, h4, h5, h6, h7, h8, hr, h9, h10⟩ := frame_foot j hf hw0
 exact wp_iff.2 ⟨_, _, ⟨h1, h2, h3⟩, hq v _ _ r w hr h4 h5 h9 h10 h8 h6 h7⟩
theorem meets_out {x : Nat} {w : List Nat} (h : x ∉ w) : meets [x] w = false := by
 unfold meets
 rw [List.any_cons, List.any_nil, Bool.or_false, List.any_eq_false]
 intro y hy
 rw [beq_of (fun e => h (by rw [e]; exact hy))]; simp
theorem meets_out' {x : Nat} {w : List Nat} (h : x ∉ w) : meets w [x] = false := by
 unfold meets
 rw [List.any_eq_false]
 intro y hy
 rw [List.any_cons, List.any_nil, Bool.or_false, beq_of (fun e => h (by rw [← e]; exact hy))]; simp
theorem hits_one {x : Nat} {f : Foot} (h : x < f.lo ∨ f.hi ≤ x) : hits [x] f = false := by
 unfold hits
 cases f.lo.beq f.hi with
 | true => rfl
 | false =>
  simp only [List.any_cons, List.any_nil, Bool.or_false, within]
  rcases h with h | h
  ·rw [blit_of (by omega)]; rfl
  ·rw [show x.blt f.hi = false from blit_of (by omega), Bool.and_false]
theorem clash_xs {i j a b m x : Nat} {r w : List Nat} (h : x < a ∨ b ≤ x) (hx : x ∉ w) : clash ⟨i, [x], [], m, m⟩ ⟨j, r, w, a, b⟩ = false := by
 unfold clash
 simp only [meets_nil, meets_out hx, hits_one (x := x) (f := ⟨j, r, w, a, b⟩) h, hits_nil, hits_same, Bool.or_false]
theorem clash_sx {i j a b m x : Nat} {r w : List Nat} (h : x < a ∨ b ≤ x) (hx : x ∉ w) : clash ⟨j, r, w, a, b⟩ ⟨i, [x], [], m, m⟩ = false := by
 unfold clash
 simp only [meets_nil', meets_out' hx, hits_one (x := x) (f := ⟨j, r, w, a, b⟩) h, hits_nil, hits_same, Bool.or_false]
theorem not_in {S : Nat → Bool} {w : List Nat} {x : Nat} (hw : ∀ id, id ∈ w → S id = true) (hx : S x = false) : x ∉ w := fun q => by
 have := hw x q
 rw [hx] at this; cases this
theorem Wp.frame {α : Type} {m : M α} {Q0 : α → Hp → Nat → Prop} (S : Nat → Bool) (hf : Free h n) (hw0 : Wp m (only S h) n Q0) :
  Wp m h n fun v h' n' => n ≤ n' ∧ Free h' n' ∧ (∀ k, k < n → S k = false → h' k = h k) ∧ ∃ hr, Q0 v hr n' ∧ (∀ k, S k = true ∨ n ≤ k → h' k = hr k) := by
 obtain ⟨v, s0, he0, hq0, hn0, hf0⟩ := wp_iff.1 (hw0.free hf.only)
 obtain ⟨r, w, o, dd⟩ := m.loc _ _ _ he0.run
 have hrn : ∀ id, id ∈ r → S id = true ∨ New (at0 (only S h) n) s0 id := fun id hid => by
  rcases dd.rlive id hid with hh | hh
  ·refine .inl ?_
   cases hs : S id with
   | true => rfl
   | false => exact absurd (only_out hs) hh
  ·exact .inr hh
 have hwn : ∀ id, id ∈ w → S id = true ∨ New (at0 (only S h) n) s0 id := fun id hid => by
  rcases dd.live id hid with hh | hh
  ·refine .inl ?_
   cases hs : S id with
   | true => rfl
   | false => exact absurd (only_out hs) hh
  ·exact .inr hh
 have same : ∀ id, S id = true ∨ New (at0 (only S h) n) s0 id → h id = only S h id := fun id hid => by
  rcases hid with hid | hid
  ·rw [only_in hid]
  ·rw [hf id hid.1, hf.only id hid.1]
 obtain ⟨t', e, g1, g2, g3, g4, g5, g6, g7⟩ := dd.again (at0 h n) rfl rfl (fun id hid => by
  refine same id ?_
  rcases hid with hid | hid | hid
  ·exact hrn id hid
  ·exact hwn id hid
  ·exact .inr hid)
 have ho : ∃ o, t'.obs = o ++ (at0 h n).obs ∧ o.all id = true := by
  obtain ⟨o2, ho2, ho3⟩ := he0.obs
  have : o = o2 := by
   have := dd.obs
   rw [ho2] at this
   exact (List.append_cancel_right this).symm
  exact ⟨o, g5, by rw [this]; exact ho3⟩
 refine wp_iff.2 ⟨v, t', ⟨e, ho, by rw [g2]; exact he0.oc⟩, by rw [g1]; exact hn0, ?_, ?_, s0.heap.get, ?_, ?_⟩
 ·intro id hid
  have hid' : s0.next ≤ id := by rw [← g1]; exact hid
  by_cases c : id ∈ w
  ·rw [g6 id (.inl c)]; exact hf0 id hid'
  ·have c2 : ¬ New (at0 (only S h) n) s0 id := fun q => by have := q.2; omega
   rw [g7 id c c2]
   exact hf id (by omega)
 ·intro k hk hs
  refine (g7 k (fun q => ?_) (fun q => ?_))
  ·rcases hwn k q with q | q
   ·rw [hs] at q; cases q
   ·have q1 : n ≤ k := q.1; omega
  ·have q1 : n ≤ k := q.1; omega
 ·rw [g1]; exact hq0
 ·intro k hk
  by_cases c : k ∈ w ∨ New (at0 (only S h) n) s0 k
  ·exact g6 k c
  ·simp only [not_or] at c
   rw [g7 k c.1 c.2, dd.rest k c.1 c.2]
   show h k = only S h k
   rcases hk with hk | hk
   ·rw [only_in hk]
   ·rw [hf k hk, hf.only k hk]
end Go.Am
set_option linter.unusedSimpArgs false
set_option linter.unusedVariables false
set_option linter.defProp false
namespace Go.Am
open Go Go.RowKit
variable {E : Env} {fn : FuncId} {rnd : Option Nat} {Q : Post0} {ks : List Kf} {tm : List AVal} {h : Hp} {n : Nat} {ops rest : List Oper} {d : Option Tmp}
inductive Rds (h : Hp) (sz : Nat) : AVal → Nat → List AVal → Prop
 | nils : Rds h sz .nils 0 []
 | emp : Rds h sz .emp 0 []
 | isl (f : Nat → AVal) (off cnt : Nat) (xs : List AVal) (hl : xs.length = cnt * sz) (hf : ∀ j (hj : j < xs.length), f (off + j) = xs[j]) : Rds h sz (.isl f sz off cnt) cnt xs
 | sl (id off cnt : Nat) (cap : Option Nat) (c : Cont) (e : TypeId) (xs : List AVal) (hh : h id = some (.row c e)) (hl : xs.length = cnt * sz) (hs : off + xs.length ≤ c.size) (hc : ∀ j (hj : j < xs.length), c.at (off + j) = xs[j]) : Rds h sz (.sl id off cnt cap sz) cnt xs
def rid (v : AVal) : List Nat := (ownId v).toList
theorem Rds.length {sz cnt : Nat} {v : AVal} {xs : List AVal} (hr : Rds h sz v cnt xs) : xs.length = cnt * sz := by
 cases hr with
 | nils => simp
 | emp => simp
 | isl f off cnt xs hl hf => exact hl
 | sl id off cnt cap c e xs hh hl hs hc => exact hl
theorem Rds.len {sz cnt : Nat} {v : AVal} {xs : List AVal} (hr : Rds h sz v cnt xs) : lenOf v = M.pure cnt := by cases hr <;> rfl
theorem Rds.bLen {sz cnt : Nat} {v : AVal} {xs : List AVal} (hr : Rds h sz v cnt xs) {t : TypeId} {ts : List TypeId} {e : TypeId} (ht : und E t = M.pure (.slice e)) : bLen E (t :: ts) v = M.pure (.int .i64 (cnt : Nat)) := by
 cases hr <;> simp only [Am.bLen, ht, bind_pure, lenOf] <;> rfl
theorem Rds.kind {sz cnt : Nat} {v : AVal} {xs : List AVal} (hr : Rds h sz v cnt xs) : v.cells = [v] ∧ oneCell v = true ∧ isJunk v = false := by cases hr <;> exact ⟨rfl, rfl, rfl⟩
theorem Rds.keep {sz cnt : Nat} {v : AVal} {xs : List AVal} {h' : Hp} (hr : Rds h sz v cnt xs) (hk : ∀ j, ownId v = some j → h' j = h j) : Rds h' sz v cnt xs := by
 cases hr with
 | nils => exact .nils
 | emp => exact .emp
 | isl f off cnt xs hl hf => exact .isl f off cnt xs hl hf
 | sl id off cnt cap c e xs hh hl hs hc => exact .sl id off cnt cap c e xs ((hk id rfl).trans hh) hl hs hc
theorem Rds.idx {sz cnt : Nat} {v : AVal} {xs : List AVal} (hr : Rds h sz v cnt xs) {t e : TypeId} (ht : und E t = M.pure (.slice e)) (he : sizeOf E e = M.pure sz) {kk : IntKind} {z : Int} {j : Nat} (hz : z = (j : Nat)) (hj : j < cnt) {h' : Hp} {n' : Nat} :
  Rd (indexAddr E t v (.int kk z)) h' n' [] (addrOf (j * sz) v) := by
 cases hr with
 | nils => omega
 | emp => omega
 | isl f off cnt xs hl hf => exact isl_idx ht he hz hj
 | sl id off cnt cap c e xs hh hl hs hc => exact sl_idx ht he hz hj
theorem moved_adr {v : AVal} {sz cnt : Nat} {xs : List AVal} (hr : Rds h sz v cnt xs) (hc : 0 < cnt) (k m : Nat) : moved m (addrOf k v) = M.pure (addrOf (k + m) v) := by
 cases hr with
 | nils => omega
 | emp => omega
 | isl f off cnt xs hl hf => simp only [addrOf, moved, Nat.add_assoc]
 | sl id off cnt cap c e xs hh hl hs hc => simp only [addrOf, moved, Nat.add_assoc]
theorem Rds.load {sz cnt : Nat} {v : AVal} {xs : List AVal} (hr : Rds h sz v cnt xs) {t : TypeId} {i : TI} (hi : ti E t = M.pure i) (ha : aggB i.desc = false) {k : Nat} {x : AVal} (hx : xs[k]? = some x) :
  Rd (load E t (addrOf k v)) h n (rid v) x := by
 obtain ⟨hk, hx⟩ := List.getElem?_eq_some_iff.1 hx
 cases hr with
 | nils => simp at hk
 | emp => simp at hk
 | isl f off cnt xs hl hf =>
  simp only [Go.Am.load, hi, bind_pure, ha, readCells, bind_assoc, addrOf]
  refine Rd.bind (i1 := []) (i2 := []) (Rd.ob (ble_of (by omega))) ?_
  rw [cellsOf_one, hf k hk, hx]
  exact Rd.pure _
 | sl id off cnt cap c e xs hh hl hs hc =>
  simp only [Go.Am.load, hi, bind_pure, ha, readCells, bind_assoc, addrOf]
  refine Rd.bind (i1 := [id]) (i2 := []) (Rd.get hh) ?_
  simp only [rowK, bind_assoc]
  refine Rd.bind (i1 := []) (i2 := []) (Rd.ob (ble_of (by omega))) ?_
  rw [Cont.sub_one (by omega), hc k hk, hx]
  exact Rd.pure _
theorem Rds.agg {sz cnt : Nat} {v : AVal} {xs : List AVal} (hr : Rds h sz v cnt xs) {t : TypeId} {i : TI} (hi : ti E t = M.pure i) (ha : aggB i.desc = true) (hz : 0 < i.size) {k : Nat} (hk : k + i.size ≤ xs.length) :
  Rd (Go.Am.load E t (addrOf k v)) h n (rid v) (.agg ((xs.drop k).take i.size)) := by
 have hlen : ((xs.drop k).take i.size).length = i.size := by rw [List.length_take, List.length_drop]; omega
 have hget : ∀ j (hj : j < ((xs.drop k).take i.size).length), ((xs.drop k).take i.size)[j] = xs[k + j]'(by omega) := fun j hj => by simp
 cases hr with
 | nils => simp at hk; omega
 | emp => simp at hk; omega
 | isl f off cnt xs hl hf =>
  simp only [Go.Am.load, hi, bind_pure, ha, readCells, bind_assoc, addrOf]
  refine Rd.bind (i1 := []) (i2 := []) (Rd.ob (ble_of (by omega))) ?_
  rw [cellsOf_eq f i.size (off + k) ((xs.drop k).take i.size) hlen (fun j hj => by rw [Nat.add_assoc, hf (k + j) (by omega), hget j hj])]
  exact Rd.pure _
 | sl id off cnt cap c e xs hh hl hs hc =>
  simp only [Go.Am.load, hi, bind_pure, ha, readCells, bind_assoc, addrOf]
  refine Rd.bind (i1 := [id]) (i2 := []) (Rd.get hh) ?_
  simp only [rowK, bind_assoc]
  refine Rd.bind (i1 := []) (i2 := []) (Rd.ob (ble_of (by omega))) ?_
  have := Cont.sub_eq (c := c) (off := off + k) (l := (xs.drop k).take i.size) (by omega) (fun j hj => by rw [Nat.add_assoc, hc (k + j) (by omega), hget j hj])
  rw [hlen] at this
  rw [this]
  exact Rd.pure _
theorem Rds.cells {sz cnt : Nat} {v : AVal} {xs : List AVal} (hr : Rds h sz v cnt xs) : Rd (sliceCells sz cnt v) h n (rid v) xs := by
 cases hr with
 | nils => exact Rd.bind (i1 := []) (i2 := []) (Rd.ob rfl) (Rd.pure _)
 | emp => exact Rd.bind (i1 := []) (i2 := []) (Rd.ob rfl) (Rd.pure _)
 | isl f off cnt xs hl hf =>
  simp only [sliceCells, sameSz, Nat.beq_refl]
  refine Rd.bind (i1 := []) (i2 := []) (Rd.ob (ble_of (Nat.le_refl _))) ?_
  rw [cellsOf_eq f (cnt * sz) off xs hl (fun j hj => hf j hj)]
  exact Rd.pure _
 | sl id off cnt cap c e xs hh hl hs hc =>
  simp only [sliceCells, sameSz, Nat.beq_refl]
  refine Rd.bind (i1 := [id]) (i2 := []) (Rd.get hh) ?_
  simp only [rowK]
  refine Rd.bind (i1 := []) (i2 := []) (Rd.ob (ble_of (Nat.le_refl _))) ?_
  refine Rd.bind (i1 := []) (i2 := []) (Rd.ob (ble_of (by omega))) ?_
  have := Cont.sub_eq (c := c) (off := off) (l := xs) hs hc
  rw [← hl, this]
  exact Rd.pure _
theorem Bytes.rds {v : AVal} {l : List UInt8} (hb : Bytes h v l) : Rds h 1 v l.length (l.map u8) := by
 cases hb with
 | nils => exact .nils
 | isl f off l hf => exact .isl f off _ _ (by simp) (fun j hj => by rw [List.getElem_map]; exact hf j (by simpa using hj))
 | sl id off cap c e l hh hs hc => exact .sl id off _ cap c e _ hh (by simp) (by simpa using hs) (fun j hj => by rw [List.getElem_map]; exact hc j (by simpa using hj))
theorem Rds.bytes {v : AVal} {cnt : Nat} {l : List UInt8} (hr : Rds h 1 v cnt (l.map u8)) (hn : v ≠ .emp) : Bytes h v l := by
 have hl := hr.length
 rw [List.length_map, Nat.mul_one] at hl
 generalize hx : l.map u8 = xs at hr
 cases hr with
 | nils =>
  have : l = [] := by simpa using hx
  subst this; exact .nils
 | emp => exact absurd rfl hn
 | isl f off cnt xs hl2 hf =>
  subst hl
  exact .isl f off l (fun j hj => by subst hx; rw [hf j (by simpa using hj), List.getElem_map])
 | sl id off cnt cap c e xs hh hl2 hs hc =>
  subst hl
  exact .sl id off cap c e l hh (by subst hx; simpa using hs) (fun j hj => by subst hx; rw [hc j (by simpa using hj), List.getElem_map])
inductive Lst (h : Hp) (e : TypeId) (sz : Nat) : AVal → Nat → List AVal → Prop
 | nil : Lst h e sz .nils 0 []
 | sl (id cnt : Nat) (cap : Option Nat) (cells xs : List AVal) (hh : h id = some (.row (.l cells) e)) (hl : cnt * sz ≤ cells.length) (hc : ∀ k, cap = some k → cnt ≤ k ∧ k * sz ≤ cells.length) (hx : cells.take (cnt * sz) = xs) : Lst h e sz (.sl id 0 cnt cap sz) cnt xs
theorem Lst.rds {e : TypeId} {sz cnt : Nat} {v : AVal} {xs : List AVal} (ho : Lst h e sz v cnt xs) : Rds h sz v cnt xs := by
 cases ho with
 | nil => exact .nils
 | sl id cnt cap cells xs hh hl hc hx =>
  subst hx
  refine .sl id 0 cnt cap (.l cells) e _ hh (by rw [List.length_take]; omega) (by rw [List.length_take]; show 0 + _ ≤ cells.length; omega) (fun j hj => ?_)
  rw [List.length_take] at hj
  rw [Nat.zero_add, Cont.at_l (by omega), List.getElem_take]
theorem Lst.keep {e : TypeId} {sz cnt : Nat} {v : AVal} {xs : List AVal} {h' : Hp} (ho : Lst h e sz v cnt xs) (hk : ∀ j, ownId v = some j → h' j = h j) : Lst h' e sz v cnt xs := by
 cases ho with
 | nil => exact .nil
 | sl id cnt cap cells xs hh hl hc hx => exact .sl id cnt cap cells xs ((hk id rfl).trans hh) hl hc hx
theorem Lst.live {e : TypeId} {sz cnt : Nat} {v : AVal} {xs : List AVal} (ho : Lst h e sz v cnt xs) (hf : Free h n) {j : Nat} (hj : ownId v = some j) : j < n := by
 cases ho with
 | nil => cases hj
 | sl id cnt cap cells xs hh hl hc hx =>
  injection hj with hj
  subst hj
  by_cases q : id < n
  ·exact q
  ·rw [hf id (by omega)] at hh; cases hh
theorem lst_new {e : TypeId} {sz cnt : Nat} {cap : Option Nat} {xs : List AVal} {id : Nat} (hh : h id = some (.row (.l xs) e)) (hl : xs.length = cnt * sz) (hc : ∀ k, cap = some k → k = cnt) : Lst h e sz (.sl id 0 cnt cap sz) cnt xs :=
 .sl id cnt cap xs xs hh (by omega) (fun k hk => by have := hc k hk; subst this; omega) (by rw [← hl, List.take_length])
theorem take_splice {xs ys : List AVal} {a : Nat} (h : a + ys.length ≤ xs.length) : (splice xs a ys).take (a + ys.length) = xs.take a ++ ys := by
 unfold splice
 rw [← List.append_assoc, List.take_append_of_le_length (by rw [List.length_append, List.length_take]; omega), List.take_of_length_le (by rw [List.length_append, List.length_take]; omega)]
theorem wp_rdb {α β : Type} {m : M α} {f : α → M β} {ids : List Nat} {a : α} {Q2 : β → Hp → Nat → Prop} (hr : Rd m h n ids a) (hw : Wp (f a) h n Q2) : Wp (m.bind f) h n Q2 :=
 wp_bind (wp_mono hr.wp fun a' h' n' ⟨e1, e2, e3⟩ => by subst e1; subst e2; subst e3; exact hw)
theorem wp_lst_append {Q1 : AVal → Hp → Nat → Prop} {t t2 e : TypeId} {i : TI} {s x : AVal} {cnt k : Nat} {xs ys : List AVal} (hs : Lst h e i.size s cnt xs) (hx : Rds h i.size x k ys)
  (ht : und E t = M.pure (.slice e)) (ht2 : und E t2 = M.pure (.slice e)) (hi : ti E e = M.pure i) (hy : ys.all oneCell = true) (hz : 0 < i.size)
  (hroom : 2 * (cnt + k) * i.bytes ≤ 281474976710656) (hroom2 : cnt + k ≤ 281474976710656) (hf : Free h n)
  (hq : ∀ v' h' n', n ≤ n' → Free h' n' → Lst h' e i.size v' (cnt + k) (xs ++ ys) → (ownId v' = ownId s ∨ ownId v' = some n ∧ n < n') → (∀ j, j < n → ownId s ≠ some j → h' j = h j) → Q1 v' h' n') :
  Wp (bAppend E [t, t2] s x) h n Q1 := by
 have hyl := hx.length
 simp only [bAppend, ht2, bind_pure, intB, append, ht, hi, hx.len, bind_assoc, wp_ask]
 by_cases hk : k = 0
 ·subst hk
  have hy0 : ys = [] := List.eq_nil_of_length_eq_zero (by omega)
  subst hy0
  have key : Lst h e i.size s (cnt + 0) (xs ++ []) := by rw [List.append_nil]; exact hs
  have := hq s h n (Nat.le_refl _) hf key (.inl rfl) (fun _ _ _ => rfl)
  rw [Nat.beq_refl]
  cases hs <;> exact wp_pure.2 this
 have hk0 : k.beq 0 = false := beq_of hk
 have hkz : 0 < k * i.size := Nat.mul_pos (by omega) hz
 simp only [hk0]
 refine wp_rdb hx.cells ?_
 have r1 : ((2 * (cnt + k) * i.bytes).ble room && (cnt + k).ble room) = true := by
  unfold room
  rw [ble_of hroom, ble_of hroom2]; rfl
 have grow : ∀ h1 : Hp, (∀ j, n ≤ j → h1 j = none) → (∀ j, j < n → ownId s ≠ some j → h1 j = h j) → xs.length = cnt * i.size → Q1 (.sl n 0 (cnt + k) none i.size) (upd h1 n (some (.row (.l (xs ++ ys)) e))) (n + 1) := fun h1 hf1 ho1 hxl => by
  refine hq _ _ _ (by omega) (Free.new hf1) (lst_new (upd_same _ _ _) (by rw [List.length_append, hxl, hyl, Nat.add_mul]) (fun k hk => by cases hk)) (.inr ⟨rfl, by omega⟩) (fun j hj hn => ?_)
  rw [upd_ne _ _ (by omega)]; exact ho1 j hj hn
 cases hs with
 | nil =>
  rw [Nat.zero_add] at r1
  simp only [grown, wp_ob, wp_new, wp_pure, r1, true_and]
  have := grow h hf (fun _ _ _ => rfl) (by simp)
  simpa using this
 | sl id cnt cap cells xs hh hl hc hxs =>
  have hid : id < n := by
   by_cases q : id < n
   ·exact q
   ·rw [hf id (by omega)] at hh; cases hh
  have hxl : xs.length = cnt * i.size := by rw [← hxs, List.length_take]; omega
  have inplace : (cnt + k) * i.size ≤ cells.length → ∀ cap', (∀ j, cap' = some j → cnt + k ≤ j ∧ j * i.size ≤ cells.length) →
    Q1 (.sl id 0 (cnt + k) cap' i.size) (upd h id (some (.row (.l (splice cells (cnt * i.size) ys)) e))) n := fun hfit cap' hcap' => by
   rw [Nat.add_mul] at hfit
   have hsl := splice_len (xs := cells) (vs := ys) (off := cnt * i.size) (by omega)
   refine hq _ _ _ (Nat.le_refl _) (hf.upd hid) (.sl id (cnt + k) cap' _ _ (upd_same _ _ _) (by rw [hsl, Nat.add_mul]; omega) (fun j hj => by rw [hsl]; exact hcap' j hj) ?_) (.inl rfl) (fun j hj hn => upd_ne _ _ (fun q => hn (by rw [q]; rfl)))
   rw [Nat.add_mul, ← hyl, take_splice (by omega), hxs]
  have hwr : ∀ {β : Type} (f : Unit → M β) (Q2 : β → Hp → Nat → Prop), (cnt + k) * i.size ≤ cells.length → Wp (f ()) (upd h id (some (.row (.l (splice cells (cnt * i.size) ys)) e))) n Q2 → Wp ((writeCells (.ptr id (0 + cnt * i.size)) ys).bind f) h n Q2 := fun f Q2 hfit hw => by
   rw [Nat.add_mul] at hfit
   have hb : (cnt * i.size + ys.length).ble cells.length = true := ble_of (by omega)
   simp only [writeCells, Nat.zero_add, bind_assoc, wp_get, hh, Option.some.injEq, exists_eq_left', rowK, wp_ob, Cont.size, hb, hy, wp_set, true_and]
   rw [setAll_l _ _ _ (by omega)]
   exact ⟨by simp, hw⟩
  have hrd : ∀ {β : Type} (f : List AVal → M β) (Q2 : β → Hp → Nat → Prop), Wp (f xs) h n Q2 → Wp ((sliceCells i.size cnt (.sl id 0 cnt cap i.size)).bind f) h n Q2 := fun f Q2 hw => by
   have := (Lst.sl (e := e) (sz := i.size) id cnt cap cells xs hh hl hc hxs).rds.cells (n := n)
   exact wp_rdb this hw
  simp only [sameSz, Nat.beq_refl, wp_get, hh, Option.some.injEq, exists_eq_left', rowK]
  cases cap with
  | none =>
   simp only [wp_ask, Nat.zero_add, Cont.size]
   by_cases hfit : (cnt + k) * i.size ≤ cells.length
   ·rw [ble_of hfit]
    simp only [wp_ob]
    refine ⟨Nat.ble_eq_true_of_le hz, ?_⟩
    have := hwr (fun _ => M.pure (AVal.sl id 0 (cnt + k) none i.size)) Q1 hfit (wp_pure.2 (inplace hfit none (fun j hj => by cases hj)))
    rwa [Nat.zero_add] at this
   ·rw [blit_of hfit]
    simp only [hy, Nat.beq_refl, Bool.and_self]
    refine hrd _ _ ?_
    simp only [wp_kill, grown, wp_ob, wp_new, wp_pure, r1, true_and, hh]
    refine ⟨by simp, grow (upd h id none) (fun j hj => by rw [upd_ne _ _ (by omega)]; exact hf j hj) (fun j hj hn => upd_ne _ _ (fun q => hn (by rw [q]; rfl))) hxl⟩
  | some m =>
   simp only [wp_ask]
   obtain ⟨hc1, hc2⟩ := hc m rfl
   by_cases hfit : cnt + k ≤ m
   ·have hfit2 : (cnt + k) * i.size ≤ cells.length := Nat.le_trans (Nat.mul_le_mul_right _ hfit) hc2
    rw [ble_of hfit]
    exact hwr _ _ hfit2 (wp_pure.2 (inplace hfit2 (some m) (fun j hj => by injection hj with hj; subst hj; exact ⟨hfit, hc2⟩)))
   ·rw [blit_of hfit]
    refine hrd _ _ ?_
    simp only [grown, wp_ob, wp_new, wp_pure, r1, true_and]
    exact grow h hf (fun _ _ _ => rfl) hxl
theorem opv_lst_append {t t2 e : TypeId} {i : TI} {s x : AVal} {cnt k : Nat} {xs ys : List AVal} (hs : Lst h e i.size s cnt xs) (hx : Rds h i.size x k ys)
  (ht : und E t = M.pure (.slice e)) (ht2 : und E t2 = M.pure (.slice e)) (hi : ti E e = M.pure i) (hy : ys.all oneCell = true) (hz : 0 < i.size)
  (hroom : 2 * (cnt + k) * i.bytes ≤ 281474976710656) (hroom2 : cnt + k ≤ 281474976710656) (hf : Free h n)
  (hq : ∀ v' h' n', n ≤ n' → Free h' n' → Lst h' e i.size v' (cnt + k) (xs ++ ys) → (ownId v' = ownId s ∨ ownId v' = some n ∧ n < n') → (∀ j, j < n → ownId s ≠ some j → h' j = h j) → Ops E fn rnd Q ks ops rest (putT tm d v') h' n') :
  OpV E fn rnd Q ks ops rest d tm (bAppend E [t, t2] s x) h n := wp_lst_append hs hx ht ht2 hi hy hz hroom hroom2 hf hq
theorem get_part {xs : List AVal} {a b j : Nat} (hj : j < ((xs.drop a).take b).length) : ((xs.drop a).take b)[j] = xs[a + j]'(by rw [List.length_take, List.length_drop] at hj; omega) := by simp
theorem Rds.sub {sz cnt : Nat} {v : AVal} {xs : List AVal} (hr : Rds h sz v cnt xs) {lo hi : Nat} (h1 : lo ≤ hi) (h2 : hi ≤ cnt) : Rds h sz (subOf lo hi v) (hi - lo) ((xs.drop (lo * sz)).take ((hi - lo) * sz)) := by
 have hl := hr.length
 have hm : lo * sz + (hi - lo) * sz ≤ cnt * sz := by rw [← Nat.add_mul]; exact Nat.mul_le_mul_right _ (by omega)
 have hlen : ((xs.drop (lo * sz)).take ((hi - lo) * sz)).length = (hi - lo) * sz := by rw [List.length_take, List.length_drop]; omega
 cases hr with
 | nils =>
  have e1 : hi = 0 := by omega
  have e2 : lo = 0 := by omega
  subst e1; subst e2
  simpa [subOf] using Rds.nils
 | emp =>
  have e1 : hi = 0 := by omega
  have e2 : lo = 0 := by omega
  subst e1; subst e2
  simpa [subOf] using Rds.emp
 | isl f off cnt xs hl2 hf => exact .isl f _ _ _ hlen (fun j hj => by rw [get_part hj, Nat.add_assoc]; exact hf _ _)
 | sl id off cnt cap c e xs hh hl2 hs hc => exact .sl id _ _ _ c e _ hh hlen (by omega) (fun j hj => by rw [get_part hj, Nat.add_assoc]; exact hc _ _)
theorem Rds.head_rd {sz cnt : Nat} {v : AVal} {xs : List AVal} (hr : Rds h sz v cnt xs) (ho : Roomy v) {t e : TypeId} (ht : und E t = M.pure (.slice e)) (he : sizeOf E e = M.pure sz) {k2 : IntKind} {hi : Nat} {z2 : Int} (e2 : z2 = (hi : Nat)) (h2 : hi ≤ cnt) {n' : Nat} {h' : Hp} :
  Rd (slice E t v none (some (.int k2 z2)) none) h' n' [] (subOf 0 hi v) := by
 subst e2
 cases hr with
 | nils =>
  have e1 : hi = 0 := by omega
  subst e1
  simp only [slice, ht, he, bind_pure, bound, intK, bind_assoc]
  exact Rd.bind (i2 := []) (Rd.ob (by simp)) (Rd.pure _)
 | emp =>
  have e1 : hi = 0 := by omega
  subst e1
  simp only [slice, ht, he, bind_pure, bound, intK, bind_assoc]
  exact Rd.bind (i2 := []) (Rd.ob (by simp)) (Rd.pure _)
 | isl f off cnt xs hl hf =>
  simp only [slice, ht, he, bind_pure, bound, intK, bind_assoc, sameSz, Nat.beq_refl]
  exact Rd.bind (i2 := []) (Rd.ob (by simp; omega)) (Rd.pure _)
 | sl id off cnt cap c e xs hh hl hs hc =>
  cases cap with
  | none =>
   have hle : ((hi : Nat) : Int) ≤ ((cnt : Nat) : Int) := by omega
   simp only [slice, roomOf, decide_eq_true hle, ht, he, bind_pure, bound, intK, bind_assoc, sameSz, Nat.beq_refl]
   exact Rd.bind (i2 := []) (Rd.ob (by simp; omega)) (Rd.pure _)
  | some cc =>
   have hcc : cnt ≤ cc := ho
   simp only [slice, roomOf, ht, he, bind_pure, bound, intK, bind_assoc, sameSz, Nat.beq_refl]
   exact Rd.bind (i2 := []) (Rd.ob (by simp; omega)) (Rd.pure _)
theorem Rds.tail_rd {sz cnt : Nat} {v : AVal} {xs : List AVal} (hr : Rds h sz v cnt xs) {t e : TypeId} (ht : und E t = M.pure (.slice e)) (he : sizeOf E e = M.pure sz) {k1 : IntKind} {lo : Nat} {z1 : Int} (e1 : z1 = (lo : Nat)) (h2 : lo ≤ cnt) {n' : Nat} {h' : Hp} :
  Rd (slice E t v (some (.int k1 z1)) none none) h' n' [] (subOf lo cnt v) := by
 subst e1
 cases hr with
 | nils =>
  have e2 : lo = 0 := by omega
  subst e2
  simp only [slice, ht, he, bind_pure, bound, intK, bind_assoc]
  exact Rd.bind (i2 := []) (Rd.ob (by simp)) (Rd.pure _)
 | emp =>
  have e2 : lo = 0 := by omega
  subst e2
  simp only [slice, ht, he, bind_pure, bound, intK, bind_assoc]
  exact Rd.bind (i2 := []) (Rd.ob (by simp)) (Rd.pure _)
 | isl f off cnt xs hl hf =>
  simp only [slice, ht, he, bind_pure, bound, intK, bind_assoc, sameSz, Nat.beq_refl]
  exact Rd.bind (i2 := []) (Rd.ob (by simp; omega)) (Rd.pure _)
 | sl id off cnt cap c e xs hh hl hs hc =>
  cases cap with
  | none =>
   simp only [slice, roomOf, ht, he, bind_pure, bound, intK, bind_assoc, sameSz, Nat.beq_refl]
   exact Rd.bind (i2 := []) (Rd.ob (by simp; omega)) (Rd.pure _)
  | some cc =>
   simp only [slice, roomOf, ht, he, bind_pure, bound, intK, bind_assoc, sameSz, Nat.beq_refl]
   exact Rd.bind (i2 := []) (Rd.ob (by simp; omega)) (Rd.pure _)
theorem Lst.roomy {e : TypeId} {sz cnt : Nat} {v : AVal} {xs : List AVal} (ho : Lst h e sz v cnt xs) : Roomy v := by
 cases ho with
 | nil => trivial
 | sl id cnt cap cells xs hh hl hc hx =>
  cases cap with
  | none => trivial
  | some c => exact (hc c rfl).1
theorem Lst.pre {e : TypeId} {sz cnt : Nat} {v : AVal} {xs : List AVal} (ho : Lst h e sz v cnt xs) {hi : Nat} (h2 : hi ≤ cnt) : Lst h e sz (subOf 0 hi v) hi (xs.take (hi * sz)) := by
 cases ho with
 | nil =>
  have : hi = 0 := by omega
  subst this
  simpa [subOf] using Lst.nil
 | sl id cnt cap cells xs hh hl hc hx =>
  have hm := Nat.mul_le_mul_right sz h2
  have xe : cells.take (hi * sz) = xs.take (hi * sz) := by rw [← hx, List.take_take, Nat.min_eq_left hm]
  cases cap with
  | none =>
   simp only [subOf, Nat.zero_mul, Nat.add_zero, Nat.sub_zero]
   exact .sl id hi none cells _ hh (by omega) (fun k hk => by cases hk) xe
  | some c =>
   simp only [subOf, Nat.zero_mul, Nat.add_zero, Nat.sub_zero]
   have := hc c rfl
   exact .sl id hi (some c) cells _ hh (by omega) (fun k hk => by injection hk with hk; subst hk; exact ⟨by omega, this.2⟩) xe
def cutOf (a : Nat) : AVal → AVal
 | .sl id off _ _ sz => .sl id off a (some a) sz
 | v => v
theorem Lst.cut_rd {sz cnt : Nat} {v : AVal} {xs : List AVal} {e : TypeId} (hr : Lst h e sz v cnt xs) {t : TypeId} (ht : und E t = M.pure (.slice e)) (he : sizeOf E e = M.pure sz) {k1 k2 : IntKind} {a : Nat} {z1 : Int} (e1 : z1 = (a : Nat)) (h2 : a ≤ cnt) {n' : Nat} {h' : Hp} :
  Rd (slice E t v none (some (.int k1 z1)) (some (.int k2 z1))) h' n' [] (cutOf a v) := by
 subst e1
 have ro := hr.roomy
 cases hr with
 | nil =>
  have e2 : a = 0 := by omega
  subst e2
  simp only [slice, ht, he, bind_pure, bound, intK, bind_assoc]
  exact Rd.bind (i2 := []) (Rd.ob (by simp)) (Rd.bind (i2 := []) (Rd.ob (by simp)) (Rd.pure _))
 | sl id cnt cap cells xs hh hl hc hx =>
  have hb : ((a : Nat) : Int) ≤ ((cap.getD cnt : Nat) : Int) := by
   cases cap with
   | none => simp only [Option.getD_none]; omega
   | some c => have := (hc c rfl).1; simp only [Option.getD_some]; omega
  simp only [slice, ht, he, bind_pure, bound, intK, bind_assoc, sameSz, Nat.beq_refl, Nat.zero_mul, Nat.add_zero, Nat.sub_zero, Int.toNat_natCast]
  exact Rd.bind (i2 := []) (Rd.ob (decide_eq_true ⟨by omega, hb⟩)) (Rd.bind (i2 := []) (Rd.ob (decide_eq_true ⟨by omega, by omega⟩)) (Rd.pure _))
theorem Lst.cut {e : TypeId} {sz cnt : Nat} {v : AVal} {xs : List AVal} (ho : Lst h e sz v cnt xs) {a : Nat} (h2 : a ≤ cnt) : Lst h e sz (cutOf a v) a (xs.take (a * sz)) := by
 cases ho with
 | nil =>
  have : a = 0 := by omega
  subst this
  simpa [subOf, cutOf] using Lst.nil
 | sl id cnt cap cells xs hh hl hc hx =>
  have hm := Nat.mul_le_mul_right sz h2
  exact .sl id a _ cells _ hh (by omega) (fun k hk => by injection hk with hk; subst hk; exact ⟨Nat.le_refl _, by omega⟩) (by rw [← hx, List.take_take, Nat.min_eq_left hm])
theorem cut_id (a : Nat) (v : AVal) : ownId (cutOf a v) = ownId v := by cases v <;> rfl
theorem sl_nil {v : AVal} {b : Bool} (hv : nilSl v = M.pure b) {t e : TypeId} (ht : und E t = M.pure (.slice e)) : equalTop E t v .nils = M.pure b := by
 unfold equalTop equal
 rw [ht, bind_pure]
 simp only
 rw [hv, bind_pure, nilSl1, bind_pure, Bool.or_true, Bool.and_true]
theorem Lst.eqNil {e : TypeId} {sz cnt : Nat} {v : AVal} {xs : List AVal} (ho : Lst h e sz v cnt xs) {t : TypeId} (ht : und E t = M.pure (.slice e)) : binOp E .eql t v .nils = M.pure (.bool (isNils v)) ∧ (isNils v = true → v = .nils ∧ cnt = 0 ∧ xs = []) := by
 cases ho with
 | nil =>
  refine ⟨?_, fun _ => ⟨rfl, rfl, rfl⟩⟩
  show binOther E .eql t .nils .nils = _
  unfold binOther
  simp only
  rw [sl_nil nilSl1 ht]; rfl
 | sl id cnt cap cells xs hh hl hc hx =>
  refine ⟨?_, fun q => by cases q⟩
  show binOther E .eql t (.sl id 0 cnt cap sz) .nils = _
  unfold binOther
  simp only
  rw [sl_nil (nilSl2 _ _ _ _ _) ht]; rfl
theorem wp_yield {id : Nat} {args : List AVal} {l : ALoop} {Q1 : AVal → Hp → Nat → Prop} (hl : h id = some (.loop l)) (hs : l.state = .ready) (ha : args.length.beq l.params.length = true)
  (hw : Run E l.fn (some id) (fun e tm1 h1 n1 => e = .normal ∧ ∃ l2, h1 id = some (.loop l2) ∧ l2.state = .ready ∧
   Run E l.fn (some id) (fun e2 tm2 h2 n2 => ∃ l3, h2 id = some (.loop l3) ∧
    Q1 (.blit (normB e2)) (Go.Am.upd h2 id (some (.loop { l3 with state := (match normB e2 with | true => .ready | false => .done), pending := jumpOf e2 }))) n2)
    l.body [] tm1 (Go.Am.upd h1 id (some (.loop { l2 with state := .busy }))) n1) l.assign [] (putAll l.tmps (l.params.zip args)) h n) :
  Wp (callV E (evalW E) (.fn (.yield id) [] []) args) h n Q1 := by
 simp only [callV, yieldTo]
 refine wp_get.2 ⟨_, hl, ?_⟩
 simp only [loopK, ha, hs, wp_bind_iff]
 refine wp_mono hw fun r h1 n1 hr => ?_
 obtain ⟨e, tm1⟩ := r
 obtain ⟨he, l2, hl2, hs2, hb⟩ := hr
 subst he
 refine wp_get.2 ⟨_, hl2, ?_⟩
 simp only [loopK, hs2]
 refine wp_set.2 ⟨by rw [hl2]; simp, ?_⟩
 refine wp_bind_iff.2 (wp_mono hb fun r2 h2 n2 hr2 => ?_)
 obtain ⟨e2, tm2⟩ := r2
 obtain ⟨l3, hl3, hq⟩ := hr2
 refine wp_get.2 ⟨_, hl3, ?_⟩
 simp only [loopK]
 refine wp_set.2 ⟨by rw [hl3]; simp, ?_⟩
 exact wp_pure.2 hq
theorem fev_row {j : Nat} {fs : List Foot} {t : TypeId} {i : TI} (hi : ti E t = M.pure i) {xs : List AVal} {f : Nat → AVal} (hf : Free h n)
  (hq : ∀ H r w, H n = some (.row (.l xs) t) → (∀ k, k ≠ n → H k = h k) → Free H (n + 1) → Fe E fn rnd Q ks ops (j + 1) rest (putT tm d (f n)) (⟨j, r, w, n, n + 1⟩ :: fs) H (n + 1)) :
  FeV E fn rnd Q ks ops j rest d tm fs ((newRow E t xs).bind fun id => M.pure (f id)) h n := by
 refine fev_any hf (Q1 := fun v' h' n' => v' = f n ∧ h' = Go.Am.upd h n (some (.row (.l xs) t)) ∧ n' = n + 1) ?_ fun v' h' n' r w hn hf' hh => ?_
 ·simp only [newRow, hi, bind_pure, wp_new, wp_pure, bind_assoc, and_self]
 ·obtain ⟨rfl, rfl, rfl⟩ := hh
  exact hq _ r w (upd_same _ _ _) (fun k hk => upd_ne _ _ hk) hf'
theorem opv_row {t : TypeId} {i : TI} (hi : ti E t = M.pure i) {xs : List AVal} {f : Nat → AVal} (hf : Free h n)
  (hq : ∀ H, H n = some (.row (.l xs) t) → (∀ k, k ≠ n → H k = h k) → Free H (n + 1) → Ops E fn rnd Q ks ops rest (putT tm d (f n)) H (n + 1)) :
  OpV E fn rnd Q ks ops rest d tm ((newRow E t xs).bind fun id => M.pure (f id)) h n := by
 simp only [newRow, hi, bind_pure, opv_new, opv_pure, bind_assoc]
 exact hq _ (upd_same _ _ _) (fun k hk => upd_ne _ _ hk) hf.new
theorem row_rds {sz cnt id : Nat} {cap : Option Nat} {xs : List AVal} {e : TypeId} (hh : h id = some (.row (.l xs) e)) (hl : xs.length = cnt * sz) : Rds h sz (.sl id 0 cnt cap sz) cnt xs :=
 .sl id 0 cnt cap (.l xs) e xs hh hl (by show 0 + xs.length ≤ xs.length; omega) (fun j hj => by rw [Nat.zero_add, Cont.at_l hj])
theorem upd_self {h : Hp} {id : Nat} {b : Option Blk} (e : h id = b) : Go.Am.upd h id b = h := funext fun j => by
 by_cases q : j = id
 ·subst q; rw [upd_same, e]
 ·rw [upd_ne _ _ q]
theorem wp_append_in {Q1 : AVal → Hp → Nat → Prop} {t t2 e e' : TypeId} {i : TI} {x : AVal} {id cnt k : Nat} {cap : Option Nat} {cells ys : List AVal} (hh : h id = some (.row (.l cells) e')) (hx : Rds h i.size x k ys)
  (ht : und E t = M.pure (.slice e)) (ht2 : und E t2 = M.pure (.slice e)) (hi : ti E e = M.pure i) (hy : ys.all oneCell = true) (hz : 0 < i.size)
  (hfit : (cnt + k) * i.size ≤ cells.length) (hcap : ∀ m, cap = some m → cnt + k ≤ m)
  (hq : Q1 (.sl id 0 (cnt + k) cap i.size) (Go.Am.upd h id (some (.row (.l (splice cells (cnt * i.size) ys)) e'))) n) :
  Wp (bAppend E [t, t2] (.sl id 0 cnt cap i.size) x) h n Q1 := by
 have hyl := hx.length
 simp only [bAppend, ht2, bind_pure, intB, append, ht, hi, hx.len, bind_assoc, wp_ask]
 by_cases hk : k = 0
 ·subst hk
  have hy0 : ys = [] := List.eq_nil_of_length_eq_zero (by omega)
  subst hy0
  have hs : splice cells (cnt * i.size) [] = cells := by unfold splice; simp
  rw [hs, upd_self hh, Nat.add_zero] at hq
  simp only [Nat.beq_refl]
  exact wp_pure.2 hq
 simp only [beq_of hk]
 refine wp_rdb hx.cells ?_
 have hwr : ∀ {β : Type} (f : Unit → M β) (Q2 : β → Hp → Nat → Prop), Wp (f ()) (Go.Am.upd h id (some (.row (.l (splice cells (cnt * i.size) ys)) e'))) n Q2 → Wp ((writeCells (.ptr id (0 + cnt * i.size)) ys).bind f) h n Q2 := fun f Q2 hw => by
  rw [Nat.add_mul] at hfit
  have hb : (cnt * i.size + ys.length).ble cells.length = true := ble_of (by omega)
  simp only [writeCells, Nat.zero_add, bind_assoc, wp_get, hh, Option.some.injEq, exists_eq_left', rowK, wp_ob, Cont.size, hb, hy, wp_set, true_and]
  rw [setAll_l _ _ _ (by omega)]
  exact ⟨by simp, hw⟩
 simp only [sameSz, Nat.beq_refl, wp_get, hh, Option.some.injEq, exists_eq_left', rowK]
 cases cap with
 | none =>
  simp only [wp_ask, Nat.zero_add, Cont.size, ble_of hfit, wp_ob]
  refine ⟨Nat.ble_eq_true_of_le hz, ?_⟩
  have := hwr (fun _ => M.pure (AVal.sl id 0 (cnt + k) none i.size)) Q1 (wp_pure.2 hq)
  rwa [Nat.zero_add] at this
 | some m =>
  simp only [wp_ask, ble_of (hcap m rfl)]
  exact hwr _ _ (wp_pure.2 hq)
theorem Lst.inv {e : TypeId} {sz cnt : Nat} {v : AVal} {xs : List AVal} (ho : Lst h e sz v cnt xs) (hc : 0 < cnt) : ∃ id cap cells, v = .sl id 0 cnt cap sz ∧ h id = some (.row (.l cells) e) ∧ cnt * sz ≤ cells.length ∧ (∀ k, cap = some k → cnt ≤ k ∧ k * sz ≤ cells.length) ∧ cells.take (cnt * sz) = xs := by
 cases ho with
 | nil => omega
 | sl id cnt cap cells xs hh hl hc hx => exact ⟨id, cap, cells, rfl, hh, hl, hc, hx⟩
theorem fev_box {j : Nat} {fs : List Foot} {t : TypeId} {i : TI} {v : AVal} (hi : ti E t = M.pure i) (hv : isJunk v = false) (hf : Free h n)
  (hq : ∀ H r w, H n = some (.row (.l v.cells) t) → (∀ k, k ≠ n → H k = h k) → Free H (n + 1) → Fe E fn rnd Q ks ops (j + 1) rest (putT tm d (.ptr n 0)) (⟨j, r, w, n, n + 1⟩ :: fs) H (n + 1)) :
  FeV E fn rnd Q ks ops j rest d tm fs (alloc E t v) h n := by
 simp only [alloc, hv]
 exact fev_row hi hf hq
theorem fev_row' {j : Nat} {fs : List Foot} {t : TypeId} {i : TI} (hi : ti E t = M.pure i) {xs : List AVal} {f : Nat → AVal} (hf : Free h n)
  (hq : ∀ H, H n = some (.row (.l xs) t) → (∀ k, k ≠ n → H k = h k) → Free H (n + 1) → Fe E fn rnd Q ks ops (j + 1) rest (putT tm d (f n)) (⟨j, [], [], n, n + 1⟩ :: fs) H (n + 1)) :
  FeV E fn rnd Q ks ops j rest d tm fs ((newRow E t xs).bind fun id => M.pure (f id)) h n := by
 have key : ∀ H : Hp, Wp ((newRow E t xs).bind fun id => M.pure (f id)) H n fun v' h' n' => v' = f n ∧ h' = Go.Am.upd H n (some (.row (.l xs) t)) ∧ n' = n + 1 := fun H => by
  simp only [newRow, hi, bind_pure, wp_new, wp_pure, bind_assoc, and_self]
 refine fev_free hf (key _) (key _) fun v' h' n' hn hf' hh => ?_
 obtain ⟨rfl, rfl, rfl⟩ := hh
 exact hq _ (upd_same _ _ _) (fun k hk => upd_ne _ _ hk) hf'
theorem hits_out {x : List Nat} {f : Foot} (h : ∀ id, id ∈ x → id < f.lo ∨ f.hi ≤ id) : hits x f = false := by
 unfold hits
 cases f.lo.beq f.hi with
 | true => rfl
 | false =>
  simp only
  rw [List.any_eq_false]
  intro y hy
  unfold within
  rcases h y hy with q | q
  ·rw [blit_of (by omega)]; simp
  ·rw [show y.blt f.hi = false from blit_of (by omega)]; simp
theorem clash_ns {i j a b c e : Nat} {r w : List Nat} (hr : ∀ id, id ∈ r → id < a ∨ b ≤ id) (hw : ∀ id, id ∈ w → id < a ∨ b ≤ id) : clash ⟨i, [], [], a, b⟩ ⟨j, r, w, c, e⟩ = false := by
 unfold clash
 simp only [meets_nil, hits_nil, Bool.false_or]
 rw [hits_out (f := ⟨i, [], [], a, b⟩) hr, hits_out (f := ⟨i, [], [], a, b⟩) hw]; rfl
theorem clash_sn {i j a b c e : Nat} {r w : List Nat} (hr : ∀ id, id ∈ r → id < a ∨ b ≤ id) (hw : ∀ id, id ∈ w → id < a ∨ b ≤ id) : clash ⟨j, r, w, c, e⟩ ⟨i, [], [], a, b⟩ = false := by
 unfold clash
 simp only [meets_nil', hits_nil, Bool.false_or, Bool.or_false]
 rw [hits_out (f := ⟨i, [], [], a, b⟩) hr, hits_out (f := ⟨i, [], [], a, b⟩) hw]; rfl
end Go.Am
set_option linter.unusedSimpArgs false
set_option linter.unusedVariables false
set_option linter.defProp false
namespace Go.Am
open Go
def byteL (cs : List AVal) : M (List UInt8) := (ob (cs.all isByte)).bind fun _ => M.pure (cs.map toByte)
def bytesA : AVal → M (List UInt8)
 | .nils => M.pure []
 | .emp => M.pure []
 | .str l => M.pure l
 | .sl id off len _ sz => sameSz sz 1 ((readCells (.ptr id off) len).bind byteL)
 | .isl g sz off len => sameSz sz 1 ((readCells (.ip g (off + len) off) len).bind byteL)
 | _ => fail "bytes expected"
section
variable {P : Program} {f : FuncId} {ρ : Ren} {m : Mem} {s s' : St} {w : World}
end
theorem Bytes.all {α : Type} {h : Hp} {n : Nat} {v : AVal} {l : List UInt8} (hb : Bytes h v l) {f : List UInt8 → M α} {Q : α → Hp → Nat → Prop} : Wp ((bytesA v).bind f) h n Q ↔ Wp (f l) h n Q := by
 cases hb with
 | nils => simp only [bytesA, bind_pure]
 | isl g off l hf =>
  simp only [bytesA, readCells, byteL, sameSz, bind_assoc, bind_pure, wp_ob, show (Nat.beq 1 1) = true from rfl]
  rw [cellsOf_eq g l.length off (l.map u8) (by simp) (fun j hj => by rw [hf j (by simpa using hj)]; simp)]
  simp only [allByte, toByte_u8, true_and, Nat.ble_self_eq_true]
 | sl id off cap c e l hh hs hc =>
  simp only [bytesA, readCells, byteL, sameSz, bind_assoc, wp_get, hh, Option.some.injEq, exists_eq_left', rowK, wp_ob, show (Nat.beq 1 1) = true from rfl, bind_pure]
  have := Cont.sub_eq (c := c) (off := off) (l := l.map u8) (by simpa using hs) (fun j hj => by rw [hc j (by simpa using hj)]; simp)
  simp only [List.length_map] at this
  simp only [this, allByte, toByte_u8, true_and]
  simp [hs]
end Go.Am
set_option linter.unusedSimpArgs false
set_option linter.unusedVariables false
set_option linter.defProp false
namespace Go.Am
open Go
section
variable {P : Program} {f : FuncId} {ρ : Ren} {m : Mem} {s s' : St} {w : World}
theorem Rel.sub {h h' : Nat → Option Blk} (hr : Rel P ρ m h w) (hh : ∀ j b, h' j = some b → h j = some b) : Rel P ρ m h' w :=
 ⟨fun id b hb => hr.live id b (hh id b hb), fun i j b c r r' h1 h2 => hr.inj i j b c r r' (hh i b h1) (hh j c h2), hr.mem⟩
theorem CallR.imp {xs : Array Value} {K K' : Value → World → Prop} (h : CallR P f xs w K) (hk : ∀ v w', K v w' → K' v w') : CallR P f xs w K' := by
 rcases h with ⟨h1, h2⟩ | ⟨v, w', h1, h2⟩
 ·exact .inl ⟨h1, h2.mono fun e w' ⟨v, h3, h4⟩ => ⟨v, h3, hk v w' h4⟩⟩
 ·exact .inr ⟨v, w', h1, hk v w' h2⟩
end
theorem hk_gen {E : Env} (f : FuncId) : ∀ {l : List (Hook E.P)} {args : List AVal} {k : M AVal}, (l.all fun x => !(x.f.beq f)) = true → hookAt E l f args k = k
 | [], _, _, _ => rfl
 | x :: l, _, _, h => by
  rw [List.all_cons, Bool.and_eq_true] at h
  unfold hookAt
  cases c : x.f.beq f with
  | true => rw [c] at h; cases h.1
  | false => exact hk_gen f h.2
theorem nb_gen {P : Program} {l : List (CHook P)} (f : FuncId) (h : (l.all fun x => !(x.fn.beq f)) = true) : ∀ k, noHook l f k = true := fun k => by
 unfold noHook
 rw [List.all_eq_true] at h ⊢
 intro x hx
 have := h x hx
 cases c : x.fn.beq f with
 | true => rw [c] at this; cases this
 | false => rfl
def rle : Bool → List Nat → List Bool
 | _, [] => []
 | b, n :: l => List.replicate n b ++ rle (!b) l
abbrev T := true
abbrev F := false
end Go.Am
set_option linter.unusedSimpArgs false
set_option linter.unusedVariables false
namespace Go.Am
open Go
variable {E : Env} {h : Hp} {n : Nat}
def ents (b : Nat) : List (AVal × AVal) → List Ent
 | [] => []
 | e :: es => (e.1, e.2, b) :: ents (b + 1) es
theorem born_at : ∀ (l : List (AVal × AVal)) (b i j : Nat), i < l.length → bornAt ((b + i : Nat) : Int) (ents b l) j = some (j + i)
 | [], _, i, _, h => by simp at h
 | e :: l, b, 0, j, _ => by simp [ents, bornAt]
 | e :: l, b, i + 1, j, h => by
  have : ((b : Int) == ((b + (i + 1) : Nat) : Int)) = false := by
   rw [beq_eq_false_iff_ne]; omega
  simp only [ents, bornAt, this]
  have := born_at l (b + 1) i (j + 1) (by simpa using h)
  rw [show b + (i + 1) = b + 1 + i by omega, this]
  congr 1; omega
theorem ents_set : ∀ (l : List (AVal × AVal)) (b i : Nat) (v : AVal), setVal (ents b l) i v = ents b (l.modify i fun e => (e.1, v))
 | [], _, i, _ => by cases i <;> rfl
 | e :: l, b, 0, v => by simp [ents, setVal]
 | e :: l, b, i + 1, v => by
  have := ents_set l (b + 1) i v
  simp only [setVal] at this
  simp only [ents, setVal, List.modify_succ_cons, this]
def at_key (p : AVal → Bool) : List (AVal × AVal) → Nat → Option (Nat × AVal)
 | [], _ => none
 | e :: es, i => if p e.1 then some (i, e.2) else at_key p es (i + 1)
theorem find_ents {kt : TypeId} {k : AVal} {p : AVal → Bool} : ∀ (l : List (AVal × AVal)) (b i : Nat), (∀ e ∈ l, equalTop E kt k e.1 = M.pure (p e.1)) → findA E kt k (ents b l) i = M.pure (at_key p l i)
 | [], _, _, _ => rfl
 | e :: l, b, i, h => by
  simp only [ents, findA, h e (List.mem_cons_self ..), bind_pure, at_key]
  cases p e.1 with
  | true => simp
  | false => simp only [Bool.false_eq_true, if_false]; exact find_ents l (b + 1) (i + 1) fun e he => h e (List.mem_cons_of_mem _ he)
section
variable {t kt et : TypeId} {k : AVal} {p : AVal → Bool} {id b ck : Nat} {l : List (AVal × AVal)}
def MapAt (h : Hp) (id b : Nat) (l : List (AVal × AVal)) : Prop := h id = some (.map (ents b l) (b + l.length))
theorem MapAt.keep {h' : Hp} (m : MapAt h id b l) (hk : h' id = h id) : MapAt h' id b l := hk.trans m
theorem MapAt.lookup (m : MapAt h id b l) (ht : und E t = M.pure (.map kt et)) (hk : keyB E 100 kt k = M.pure ()) (hp : ∀ e ∈ l, equalTop E kt k e.1 = M.pure (p e.1)) {z : AVal} (hz : zeroOf E et = M.pure z) :
  Rd (lookupM E t (.map id) k false) h n [id] (((at_key p l 0).map (·.2)).getD z) := by
 simp only [lookupM, ht, bind_pure, entsOf, bind_assoc]
 have : Rd ((getB id).bind fun a => (mapK (fun es _ => M.pure es) a).bind fun es => (keyB E 100 kt k).bind fun _ => (findA E kt k es 0).bind fun r => match r with
   | some p => M.pure (okV false p.2 true)
   | none => (zeroOf E et).bind fun z => M.pure (okV false z false)) h n ([] ++ [id]) (((at_key p l 0).map (·.2)).getD z) := by
  refine Rd.bind (Rd.get m) ?_
  simp only [mapK, bind_pure, hk, find_ents l b 0 hp]
  cases at_key p l 0 with
  | none => simp only [hz, bind_pure]; exact Rd.pure _
  | some x => exact Rd.pure _
 exact this
theorem MapAt.store (m : MapAt h id b l) {i : Nat} (hi : i < l.length) {v : AVal} :
  ∃ h2, Wr (entryStoreM (.map id) (.int .i64 ((b + i : Nat) : Int)) v) h n [id] [id] undef h2 ∧ MapAt h2 id b (l.modify i fun e => (e.1, v)) ∧ ∀ j, j ≠ id → h2 j = h j := by
 refine ⟨Go.Am.upd h id (some (.map (setVal (ents b l) i v) (b + l.length))), ?_, ?_, fun j hj => upd_ne _ _ hj⟩
 ·show Wr _ h n ([] ++ [id]) [id] undef _
  simp only [entryStoreM]
  refine Wr.bind (Rd.get m) ?_
  simp only [mapK, intK, born_at l b i 0 hi, getO, bind_pure, Nat.zero_add]
  exact (Wr.set m).ret
 ·unfold MapAt
  rw [upd_same, ents_set, List.length_modify]
theorem MapAt.clear (m : MapAt h id b l) {ts : List TypeId} {t0 : TypeId} (ht : und E t0 = M.pure (.map kt et)) : ∃ h2, Wr (bClear E (t0 :: ts) (.map id)) h n [id] [id] (AVal.tup []) h2 ∧ MapAt h2 id (b + l.length) [] ∧ ∀ j, j ≠ id → h2 j = h j := by
 refine ⟨Go.Am.upd h id (some (.map [] (b + l.length))), ?_, upd_same _ _ _, fun j hj => upd_ne _ _ hj⟩
 have : Wr ((getB id).bind (mapK fun _ ck => (setB id (.map [] ck)).bind fun _ => M.pure (AVal.tup []))) h n ([] ++ [id]) [id] (AVal.tup []) (Go.Am.upd h id (some (.map [] (b + l.length)))) := by
  refine Wr.bind (Rd.get m) ?_
  simp only [mapK]
  exact (Wr.set m).ret
 simp only [bClear, ht, bind_pure]
 exact this
end
end Go.Am
set_option linter.unusedSimpArgs false
set_option linter.unusedVariables false
namespace Go.Am
open Go
variable {E : Env} {h : Hp} {n : Nat}
theorem Rd.wr {m : M AVal} {ids : List Nat} {v : AVal} (r : Rd m h n ids v) : Wr m h n ids [] v h := by
 refine ⟨fun s hs => ?_⟩
 obtain ⟨s', o, e, a, b, c, d, w, g, q⟩ := r.r s hs
 exact ⟨s', o, e, by rw [a, hs.hp], b, c, d, w, g, q⟩
def Ex (m : M AVal) (h : Hp) (n : Nat) (v : AVal) (h' : Hp) : Prop := ∃ rs ws, Wr m h n rs ws v h'
theorem Ex.rd {m : M AVal} {ids : List Nat} {v : AVal} (r : Rd m h n ids v) : Ex m h n v h := ⟨_, _, r.wr⟩
theorem Ex.wr {m : M AVal} {rs ws : List Nat} {v : AVal} {h' : Hp} (r : Wr m h n rs ws v h') : Ex m h n v h' := ⟨_, _, r⟩
theorem Ex.pure {v : AVal} : Ex (M.pure v) h n v h := .rd (.pure v)
section
variable {rec : Rec} {ops : Array Oper} {J : Array Bool → List AVal → Hp → Prop}
end
set_option linter.defProp false
def gE := (And.intro @execOp.eq_1 (And.intro @execOp.eq_2 (And.intro @execOp.eq_3 (And.intro @execOp.eq_4 (And.intro @execOp.eq_5 (And.intro @execOp.eq_6 (And.intro @execOp.eq_7 (And.intro @execOp.eq_8 (And.intro @execOp.eq_9 (And.intro @execOp.eq_10 (And.intro @execOp.eq_11 (And.intro @execOp.eq_12 (And.intro @execOp.eq_13 (And.intro @execOp.eq_14 (And.intro @execOp.eq_15 (And.intro @execOp.eq_16 (And.intro @execOp.eq_17 (And.intro @execOp.eq_18 (And.intro @execOp.eq_19 (And.intro @execOp.eq_20 (And.intro @execOp.eq_21 (And.intro @execOp.eq_22 (And.intro @execOp.eq_23 (And.intro @execOp.eq_24 (And.intro @execOp.eq_25 (And.intro @execOp.eq_26 (And.intro @execOp.eq_27 (And.intro @execOp.eq_28 (And.intro @execOp.eq_29 (And.intro @execOp.eq_30 (And.intro @execOp.eq_31 (And.intro @execOp.eq_32 (And.intro @execOp.eq_33 (And.intro @execOp.eq_34 (And.intro @opd.eq_1 (And.intro @opd.eq_2 (And.intro @opd.eq_3 (And.intro @opd.eq_4 (And.intro @opds.eq_1 (And.intro @opds.eq_2 (And.intro @ofValue.eq_1 (And.intro @ofValue.eq_2 (And.intro @ofValue.eq_3 (And.intro @ofValue.eq_4 (And.intro @ofValue.eq_5 (And.intro @ofValue.eq_6 (And.intro @ofValue.eq_7 (And.intro @ofValue.eq_8 (And.intro @ofValue.eq_9 (And.intro @ofValue.eq_10 (And.intro @ofValue.eq_11 (And.intro @ofArr.eq_1 (And.intro @ofList.eq_1 (And.intro @ofList.eq_2 (And.intro @ops2.eq_1 (And.intro @ops2.eq_2 (And.intro @putT.eq_1 (And.intro @putT.eq_2 (And.intro @put.eq_1 (And.intro @put.eq_2 (And.intro @put.eq_3 (And.intro @nth.eq_1 (And.intro @nth.eq_2 (And.intro @nth.eq_3 (And.intro @forgetL.eq_1 (And.intro @forgetL.eq_2 (And.intro @forgetL.eq_3 (And.intro @forgetL.eq_4 (And.intro @doCall.eq_1 (And.intro @one1.eq_1 (And.intro @one1.eq_2 (And.intro @two2.eq_1 (And.intro @two2.eq_2 (And.intro @some1.eq_1 (And.intro @some1.eq_2 (And.intro @und.eq_1 (And.intro @sizeOf.eq_1 (And.intro @zeroOf.eq_1 (And.intro @intOp.eq_1 (And.intro @intOp.eq_2 (And.intro @intOp.eq_3 (And.intro @intOp.eq_4 (And.intro @intOp.eq_5 (And.intro @intOp.eq_6 (And.intro @intOp.eq_7 (And.intro @intOp.eq_8 (And.intro @intOp.eq_9 (And.intro @intOp.eq_10 (And.intro @intOp.eq_11 (And.intro @intOp.eq_12 (And.intro @intOp.eq_13 (And.intro @intOp.eq_14 (And.intro @intOp.eq_15 (And.intro @intOp.eq_16 (And.intro @intOp.eq_17 (And.intro @binInt.eq_1 (And.intro @binInt.eq_2 (And.intro @shiftB.eq_1 (And.intro @shiftB.eq_2 (And.intro @shiftB.eq_3 (And.intro @strK.eq_1 (And.intro @strK.eq_2 (And.intro @intK.eq_1 (And.intro @intK.eq_2 (And.intro @branch.eq_1 (And.intro @branch.eq_2 (And.intro @branch.eq_3 (And.intro @nilCheck.eq_1 (And.intro @nilCheck.eq_2 (And.intro @nilCheck.eq_3 (And.intro @nilCheck.eq_4 (And.intro @nilCheck.eq_5 (And.intro @nilCheck.eq_6 (And.intro @extract.eq_1 (And.intro @extract.eq_2 (And.intro @getO.eq_1 (And.intro @getO.eq_2 (And.intro @ended.eq_1 (And.intro @resultOf.eq_1 (And.intro @resultOf.eq_2 (And.intro @resultOf.eq_3 (And.intro @oneOrTup.eq_1 (And.intro @oneOrTup.eq_2 (And.intro @fieldAddr.eq_1 (And.intro @field.eq_1 (And.intro @core1 (And.intro @cont_block_any (And.intro @opg_un (And.intro @callV_func (And.intro @List.getElem?_cons_succ.{0} (And.intro @List.getElem?_cons_zero.{0} (And.intro @List.append_eq.{0} (And.intro @List.cons_append.{0} (And.intro @List.nil_append.{0} (And.intro @List.append_nil.{0} (And.intro @List.length_cons.{0} (And.intro @List.length_nil.{0} (And.intro @not_true_eq_false (And.intro @not_false_eq_true (And.intro @decide_true (And.intro @decide_false (And.intro @Bool.not_true (And.intro @Bool.not_false (And.intro @Bool.and_true (And.intro @Bool.true_and (And.intro @Bool.and_false (And.intro @Bool.false_and (And.intro @Bool.or_true (And.intro @Bool.true_or (And.intro @Bool.or_false (And.intro @Bool.false_or (And.intro @and_true (And.intro @true_and (And.intro @and_self (And.intro @nc0 (And.intro @nc1 (And.intro @int_beq (And.intro @int_bne (And.intro @str_beq (And.intro @Nat.zero_add (And.intro @Nat.add_zero (And.intro @Int.toNat_zero (And.intro @Nat.zero_mul (And.intro @wp_pure (And.intro @beq_self_eq_true.{0} (And.intro @bne_self_eq_false.{0} (And.intro @fe_nil (And.intro @fe_cons (And.intro @fe_guard (And.intro @fego_some (And.intro @feg_bool (And.intro @feg_tt (And.intro @feg_ff (And.intro @feg_tf (And.intro @feg_ft (And.intro @feg_un (And.intro @fev_ask (And.intro @fev_ob (And.intro @fev_pure @fev_fail)))))))))))))))))))))))))))))))))))))))))))))))))))))))))))))))))))))))))))))))))))))))))))))))))))))))))))))))))))))))))))))))))))))))))))))))))))))))))))))))))))))))))))))))))))
def gF := (And.intro @clash_pl (And.intro @clash_pr (And.intro @clash_rr (And.intro @clash_rw (And.intro @clash_wr (And.intro @clash_ww (And.intro @clash_nn (And.intro @clash_nw (And.intro @clash_xn (And.intro @clash_nx (And.intro @clash_xs (And.intro @clash_sx (And.intro @clash_ns (And.intro @clash_sn (And.intro @List.all_cons.{0} (And.intro @List.all_nil.{0} (And.intro @Bool.not_false (And.intro @Bool.true_or (And.intro @Bool.and_true @Bool.true_and)))))))))))))))))))
end Go.Am
set_option maxRecDepth 100000
set_option linter.defProp false
namespace Go.Am.Ytmoplhbncjicbaa
open Go Go.Am Go.Proofs
noncomputable def ty0 : TE Try.prog := ⟨0, ⟨Try.t0.desc, 1, 0, .tup []⟩, ⟨⟨Try.t0, _, rfl, rfl, rfl, rfl, rfl⟩, rfl, rfl, Try.underlying0⟩⟩
noncomputable def ty1 : TE Try.prog := ⟨1, ⟨Try.t1.desc, 1, 8, .nilf⟩, ⟨⟨Try.t1, _, rfl, rfl, rfl, rfl, rfl⟩, rfl, rfl, Try.underlying1⟩⟩
noncomputable def ty2 : TE Try.prog := ⟨2, ⟨Try.t2.desc, 1, 8, .int .i64 (0)⟩, ⟨⟨Try.t2, _, rfl, rfl, rfl, rfl, rfl⟩, rfl, rfl, Try.underlying2⟩⟩
noncomputable def ty3 : TE Try.prog := ⟨3, ⟨Try.t3.desc, 1, 8, .int .i64 (0)⟩, ⟨⟨Try.t3, _, rfl, rfl, rfl, rfl, rfl⟩, rfl, rfl, Try.underlying3⟩⟩
noncomputable def ty4 : TE Try.prog := ⟨4, ⟨Try.t4.desc, 1, 1, .bool false⟩, ⟨⟨Try.t4, _, rfl, rfl, rfl, rfl, rfl⟩, rfl, rfl, Try.underlying4⟩⟩
noncomputable def ty5 : TE Try.prog := ⟨5, ⟨Try.t5.desc, 1, 1, .int .u8 (0)⟩, ⟨⟨Try.t5, _, rfl, rfl, rfl, rfl, rfl⟩, rfl, rfl, Try.underlying5⟩⟩
noncomputable def ty6 : TE Try.prog := ⟨6, ⟨Try.t5.desc, 1, 1, .int .u8 (0)⟩, ⟨⟨Try.t6, _, rfl, rfl, rfl, rfl, rfl⟩, rfl, rfl, Try.underlying6⟩⟩
noncomputable def ty7 : TE Try.prog := ⟨7, ⟨Try.t7.desc, 4, 24, .agg [.int .i64 (0), .int .i64 (0), .bool false, .int .u8 (0)]⟩, ⟨⟨Try.t7, _, rfl, rfl, rfl, rfl, rfl⟩, rfl, rfl, Try.underlying7⟩⟩
noncomputable def ty8 : TE Try.prog := ⟨8, ⟨Try.t7.desc, 4, 24, .agg [.int .i64 (0), .int .i64 (0), .bool false, .int .u8 (0)]⟩, ⟨⟨Try.t8, _, rfl, rfl, rfl, rfl, rfl⟩, rfl, rfl, Try.underlying8⟩⟩
noncomputable def ty9 : TE Try.prog := ⟨9, ⟨Try.t9.desc, 1, 16, .str []⟩, ⟨⟨Try.t9, _, rfl, rfl, rfl, rfl, rfl⟩, rfl, rfl, Try.underlying9⟩⟩
noncomputable def ty10 : TE Try.prog := ⟨10, ⟨Try.t9.desc, 1, 16, .str []⟩, ⟨⟨Try.t10, _, rfl, rfl, rfl, rfl, rfl⟩, rfl, rfl, Try.underlying10⟩⟩
noncomputable def ty11 : TE Try.prog := ⟨11, ⟨Try.t9.desc, 1, 16, .str []⟩, ⟨⟨Try.t11, _, rfl, rfl, rfl, rfl, rfl⟩, rfl, rfl, Try.underlying11⟩⟩
noncomputable def ty12 : TE Try.prog := ⟨12, ⟨Try.t12.desc, 1, 8, .int .u64 (0)⟩, ⟨⟨Try.t12, _, rfl, rfl, rfl, rfl, rfl⟩, rfl, rfl, Try.underlying12⟩⟩
noncomputable def ty13 : TE Try.prog := ⟨13, ⟨Try.t13.desc, 2, 24, .agg [.str [], .int .u64 (0)]⟩, ⟨⟨Try.t13, _, rfl, rfl, rfl, rfl, rfl⟩, rfl, rfl, Try.underlying13⟩⟩
noncomputable def ty14 : TE Try.prog := ⟨14, ⟨Try.t13.desc, 2, 24, .agg [.str [], .int .u64 (0)]⟩, ⟨⟨Try.t14, _, rfl, rfl, rfl, rfl, rfl⟩, rfl, rfl, Try.underlying14⟩⟩
noncomputable def ty15 : TE Try.prog := ⟨15, ⟨Try.t15.desc, 1, 8, .nilp⟩, ⟨⟨Try.t15, _, rfl, rfl, rfl, rfl, rfl⟩, rfl, rfl, Try.underlying15⟩⟩
noncomputable def ty16 : TE Try.prog := ⟨16, ⟨Try.t16.desc, 1, 8, .nilp⟩, ⟨⟨Try.t16, _, rfl, rfl, rfl, rfl, rfl⟩, rfl, rfl, Try.underlying16⟩⟩
noncomputable def ty17 : TE Try.prog := ⟨17, ⟨Try.t17.desc, 1, 8, .nilp⟩, ⟨⟨Try.t17, _, rfl, rfl, rfl, rfl, rfl⟩, rfl, rfl, Try.underlying17⟩⟩
noncomputable def ty18 : TE Try.prog := ⟨18, ⟨Try.t18.desc, 1, 8, .agg [.nilp]⟩, ⟨⟨Try.t18, _, rfl, rfl, rfl, rfl, rfl⟩, rfl, rfl, Try.underlying18⟩⟩
noncomputable def ty19 : TE Try.prog := ⟨19, ⟨Try.t18.desc, 1, 8, .agg [.nilp]⟩, ⟨⟨Try.t19, _, rfl, rfl, rfl, rfl, rfl⟩, rfl, rfl, Try.underlying19⟩⟩
noncomputable def ty20 : TE Try.prog := ⟨20, ⟨Try.t20.desc, 1, 16, .nili⟩, ⟨⟨Try.t20, _, rfl, rfl, rfl, rfl, rfl⟩, rfl, rfl, Try.underlying20⟩⟩
noncomputable def ty21 : TE Try.prog := ⟨21, ⟨Try.t21.desc, 1, 4, .int .i32 (0)⟩, ⟨⟨Try.t21, _, rfl, rfl, rfl, rfl, rfl⟩, rfl, rfl, Try.underlying21⟩⟩
noncomputable def ty22 : TE Try.prog := ⟨22, ⟨Try.t22.desc, 1, 24, .nils⟩, ⟨⟨Try.t22, _, rfl, rfl, rfl, rfl, rfl⟩, rfl, rfl, Try.underlying22⟩⟩
noncomputable def ty23 : TE Try.prog := ⟨23, ⟨Try.t23.desc, 1, 8, .nilf⟩, ⟨⟨Try.t23, _, rfl, rfl, rfl, rfl, rfl⟩, rfl, rfl, Try.underlying23⟩⟩
noncomputable def ty24 : TE Try.prog := ⟨24, ⟨Try.t3.desc, 1, 8, .int .i64 (0)⟩, ⟨⟨Try.t24, _, rfl, rfl, rfl, rfl, rfl⟩, rfl, rfl, Try.underlying24⟩⟩
noncomputable def ty25 : TE Try.prog := ⟨25, ⟨Try.t25.desc, 1, 0, .tup [.nils, .int .i64 (0)]⟩, ⟨⟨Try.t25, _, rfl, rfl, rfl, rfl, rfl⟩, rfl, rfl, Try.underlying25⟩⟩
noncomputable def ty26 : TE Try.prog := ⟨26, ⟨Try.t26.desc, 1, 8, .nilf⟩, ⟨⟨Try.t26, _, rfl, rfl, rfl, rfl, rfl⟩, rfl, rfl, Try.underlying26⟩⟩
noncomputable def ty27 : TE Try.prog := ⟨27, ⟨Try.t27.desc, 1, 0, .tup [.int .i64 (0), .int .i64 (0)]⟩, ⟨⟨Try.t27, _, rfl, rfl, rfl, rfl, rfl⟩, rfl, rfl, Try.underlying27⟩⟩
noncomputable def ty28 : TE Try.prog := ⟨28, ⟨Try.t28.desc, 1, 8, .nilf⟩, ⟨⟨Try.t28, _, rfl, rfl, rfl, rfl, rfl⟩, rfl, rfl, Try.underlying28⟩⟩
noncomputable def ty29 : TE Try.prog := ⟨29, ⟨Try.t29.desc, 1, 8, .nilf⟩, ⟨⟨Try.t29, _, rfl, rfl, rfl, rfl, rfl⟩, rfl, rfl, Try.underlying29⟩⟩
noncomputable def ty30 : TE Try.prog := ⟨30, ⟨Try.t30.desc, 1, 8, .nilf⟩, ⟨⟨Try.t30, _, rfl, rfl, rfl, rfl, rfl⟩, rfl, rfl, Try.underlying30⟩⟩
noncomputable def ty31 : TE Try.prog := ⟨31, ⟨Try.t31.desc, 1, 0, .tup [.nils, .int .i64 (0)]⟩, ⟨⟨Try.t31, _, rfl, rfl, rfl, rfl, rfl⟩, rfl, rfl, Try.underlying31⟩⟩
noncomputable def ty32 : TE Try.prog := ⟨32, ⟨Try.t32.desc, 1, 8, .nilf⟩, ⟨⟨Try.t32, _, rfl, rfl, rfl, rfl, rfl⟩, rfl, rfl, Try.underlying32⟩⟩
noncomputable def ty33 : TE Try.prog := ⟨33, ⟨Try.t33.desc, 1, 0, .tup [.int .i64 (0), .int .i64 (0)]⟩, ⟨⟨Try.t33, _, rfl, rfl, rfl, rfl, rfl⟩, rfl, rfl, Try.underlying33⟩⟩
noncomputable def ty34 : TE Try.prog := ⟨34, ⟨Try.t34.desc, 1, 8, .nilf⟩, ⟨⟨Try.t34, _, rfl, rfl, rfl, rfl, rfl⟩, rfl, rfl, Try.underlying34⟩⟩
noncomputable def ty35 : TE Try.prog := ⟨35, ⟨Try.t35.desc, 1, 8, .nilf⟩, ⟨⟨Try.t35, _, rfl, rfl, rfl, rfl, rfl⟩, rfl, rfl, Try.underlying35⟩⟩
noncomputable def ty36 : TE Try.prog := ⟨36, ⟨Try.t36.desc, 1, 8, .nilf⟩, ⟨⟨Try.t36, _, rfl, rfl, rfl, rfl, rfl⟩, rfl, rfl, Try.underlying36⟩⟩
noncomputable def ty37 : TE Try.prog := ⟨37, ⟨Try.t37.desc, 1, 8, .nilf⟩, ⟨⟨Try.t37, _, rfl, rfl, rfl, rfl, rfl⟩, rfl, rfl, Try.underlying37⟩⟩
noncomputable def ty38 : TE Try.prog := ⟨38, ⟨Try.t38.desc, 1, 8, .nilf⟩, ⟨⟨Try.t38, _, rfl, rfl, rfl, rfl, rfl⟩, rfl, rfl, Try.underlying38⟩⟩
noncomputable def ty39 : TE Try.prog := ⟨39, ⟨Try.t39.desc, 1, 8, .nilf⟩, ⟨⟨Try.t39, _, rfl, rfl, rfl, rfl, rfl⟩, rfl, rfl, Try.underlying39⟩⟩
noncomputable def ty40 : TE Try.prog := ⟨40, ⟨Try.t40.desc, 1, 8, .nilf⟩, ⟨⟨Try.t40, _, rfl, rfl, rfl, rfl, rfl⟩, rfl, rfl, Try.underlying40⟩⟩
noncomputable def ty41 : TE Try.prog := ⟨41, ⟨Try.t41.desc, 1, 8, .nilf⟩, ⟨⟨Try.t41, _, rfl, rfl, rfl, rfl, rfl⟩, rfl, rfl, Try.underlying41⟩⟩
noncomputable def ty42 : TE Try.prog := ⟨42, ⟨Try.t42.desc, 1, 8, .nilf⟩, ⟨⟨Try.t42, _, rfl, rfl, rfl, rfl, rfl⟩, rfl, rfl, Try.underlying42⟩⟩
noncomputable def ty43 : TE Try.prog := ⟨43, ⟨Try.t43.desc, 1, 8, .nilf⟩, ⟨⟨Try.t43, _, rfl, rfl, rfl, rfl, rfl⟩, rfl, rfl, Try.underlying43⟩⟩
noncomputable def ty44 : TE Try.prog := ⟨44, ⟨Try.t44.desc, 8, 64, .agg [.int .i64 (0), .int .i64 (0), .int .i64 (0), .int .i64 (0), .int .i64 (0), .int .i64 (0), .int .i64 (0), .int .i64 (0)]⟩, ⟨⟨Try.t44, _, rfl, rfl, rfl, rfl, rfl⟩, rfl, rfl, Try.underlying44⟩⟩
noncomputable def ty45 : TE Try.prog := ⟨45, ⟨Try.t45.desc, 1, 8, .nilf⟩, ⟨⟨Try.t45, _, rfl, rfl, rfl, rfl, rfl⟩, rfl, rfl, Try.underlying45⟩⟩
noncomputable def ty46 : TE Try.prog := ⟨46, ⟨Try.t46.desc, 1, 8, .nilf⟩, ⟨⟨Try.t46, _, rfl, rfl, rfl, rfl, rfl⟩, rfl, rfl, Try.underlying46⟩⟩
noncomputable def ty47 : TE Try.prog := ⟨47, ⟨Try.t47.desc, 1, 8, .nilf⟩, ⟨⟨Try.t47, _, rfl, rfl, rfl, rfl, rfl⟩, rfl, rfl, Try.underlying47⟩⟩
noncomputable def ty48 : TE Try.prog := ⟨48, ⟨Try.t48.desc, 1, 8, .nilf⟩, ⟨⟨Try.t48, _, rfl, rfl, rfl, rfl, rfl⟩, rfl, rfl, Try.underlying48⟩⟩
noncomputable def ty49 : TE Try.prog := ⟨49, ⟨Try.t49.desc, 3, 24, .agg [.int .u8 (0), .int .i64 (0), .int .i64 (0)]⟩, ⟨⟨Try.t49, _, rfl, rfl, rfl, rfl, rfl⟩, rfl, rfl, Try.underlying49⟩⟩
noncomputable def ty50 : TE Try.prog := ⟨50, ⟨Try.t50.desc, 1, 24, .nils⟩, ⟨⟨Try.t50, _, rfl, rfl, rfl, rfl, rfl⟩, rfl, rfl, Try.underlying50⟩⟩
noncomputable def ty51 : TE Try.prog := ⟨51, ⟨Try.t51.desc, 4, 32, .agg [.int .u8 (0), .int .i64 (0), .int .i64 (0), .int .i64 (0)]⟩, ⟨⟨Try.t51, _, rfl, rfl, rfl, rfl, rfl⟩, rfl, rfl, Try.underlying51⟩⟩
noncomputable def ty52 : TE Try.prog := ⟨52, ⟨Try.t52.desc, 1, 24, .nils⟩, ⟨⟨Try.t52, _, rfl, rfl, rfl, rfl, rfl⟩, rfl, rfl, Try.underlying52⟩⟩
noncomputable def ty53 : TE Try.prog := ⟨53, ⟨Try.t53.desc, 1, 24, .nils⟩, ⟨⟨Try.t53, _, rfl, rfl, rfl, rfl, rfl⟩, rfl, rfl, Try.underlying53⟩⟩
noncomputable def ty54 : TE Try.prog := ⟨54, ⟨Try.t54.desc, 1, 8, .nilf⟩, ⟨⟨Try.t54, _, rfl, rfl, rfl, rfl, rfl⟩, rfl, rfl, Try.underlying54⟩⟩
noncomputable def ty55 : TE Try.prog := ⟨55, ⟨Try.t55.desc, 1, 8, .nilp⟩, ⟨⟨Try.t55, _, rfl, rfl, rfl, rfl, rfl⟩, rfl, rfl, Try.underlying55⟩⟩
noncomputable def ty56 : TE Try.prog := ⟨56, ⟨Try.t56.desc, 1, 0, .tup [.nilp, .int .i64 (0)]⟩, ⟨⟨Try.t56, _, rfl, rfl, rfl, rfl, rfl⟩, rfl, rfl, Try.underlying56⟩⟩
noncomputable def ty57 : TE Try.prog := ⟨57, ⟨Try.t57.desc, 1, 8, .nilf⟩, ⟨⟨Try.t57, _, rfl, rfl, rfl, rfl, rfl⟩, rfl, rfl, Try.underlying57⟩⟩
noncomputable def ty58 : TE Try.prog := ⟨58, ⟨Try.t58.desc, 1, 8, .nilf⟩, ⟨⟨Try.t58, _, rfl, rfl, rfl, rfl, rfl⟩, rfl, rfl, Try.underlying58⟩⟩
noncomputable def ty59 : TE Try.prog := ⟨59, ⟨Try.t59.desc, 1, 8, .nilf⟩, ⟨⟨Try.t59, _, rfl, rfl, rfl, rfl, rfl⟩, rfl, rfl, Try.underlying59⟩⟩
noncomputable def ty60 : TE Try.prog := ⟨60, ⟨Try.t60.desc, 1, 8, .nilf⟩, ⟨⟨Try.t60, _, rfl, rfl, rfl, rfl, rfl⟩, rfl, rfl, Try.underlying60⟩⟩
noncomputable def ty61 : TE Try.prog := ⟨61, ⟨Try.t61.desc, 1, 8, .nilf⟩, ⟨⟨Try.t61, _, rfl, rfl, rfl, rfl, rfl⟩, rfl, rfl, Try.underlying61⟩⟩
noncomputable def ty62 : TE Try.prog := ⟨62, ⟨Try.t62.desc, 1, 8, .nilm⟩, ⟨⟨Try.t62, _, rfl, rfl, rfl, rfl, rfl⟩, rfl, rfl, Try.underlying62⟩⟩
noncomputable def ty63 : TE Try.prog := ⟨63, ⟨Try.t63.desc, 1, 8, .nilf⟩, ⟨⟨Try.t63, _, rfl, rfl, rfl, rfl, rfl⟩, rfl, rfl, Try.underlying63⟩⟩
noncomputable def ty64 : TE Try.prog := ⟨64, ⟨Try.t64.desc, 1, 8, .nilf⟩, ⟨⟨Try.t64, _, rfl, rfl, rfl, rfl, rfl⟩, rfl, rfl, Try.underlying64⟩⟩
noncomputable def ty65 : TE Try.prog := ⟨65, ⟨Try.t65.desc, 1, 8, .nilf⟩, ⟨⟨Try.t65, _, rfl, rfl, rfl, rfl, rfl⟩, rfl, rfl, Try.underlying65⟩⟩
noncomputable def ty66 : TE Try.prog := ⟨66, ⟨Try.t66.desc, 1, 8, .nilf⟩, ⟨⟨Try.t66, _, rfl, rfl, rfl, rfl, rfl⟩, rfl, rfl, Try.underlying66⟩⟩
noncomputable def ty67 : TE Try.prog := ⟨67, ⟨Try.t67.desc, 1, 8, .nilf⟩, ⟨⟨Try.t67, _, rfl, rfl, rfl, rfl, rfl⟩, rfl, rfl, Try.underlying67⟩⟩
noncomputable def ty68 : TE Try.prog := ⟨68, ⟨Try.t68.desc, 1, 8, .nilf⟩, ⟨⟨Try.t68, _, rfl, rfl, rfl, rfl, rfl⟩, rfl, rfl, Try.underlying68⟩⟩
noncomputable def ty69 : TE Try.prog := ⟨69, ⟨Try.t69.desc, 1, 8, .nilf⟩, ⟨⟨Try.t69, _, rfl, rfl, rfl, rfl, rfl⟩, rfl, rfl, Try.underlying69⟩⟩
noncomputable def ty70 : TE Try.prog := ⟨70, ⟨Try.t70.desc, 1, 24, .nils⟩, ⟨⟨Try.t70, _, rfl, rfl, rfl, rfl, rfl⟩, rfl, rfl, Try.underlying70⟩⟩
noncomputable def ty71 : TE Try.prog := ⟨71, ⟨Try.t71.desc, 1, 8, .nilp⟩, ⟨⟨Try.t71, _, rfl, rfl, rfl, rfl, rfl⟩, rfl, rfl, Try.underlying71⟩⟩
noncomputable def ty72 : TE Try.prog := ⟨72, ⟨Try.t72.desc, 1, 0, .tup [.nilp, .int .i64 (0)]⟩, ⟨⟨Try.t72, _, rfl, rfl, rfl, rfl, rfl⟩, rfl, rfl, Try.underlying72⟩⟩
noncomputable def ty73 : TE Try.prog := ⟨73, ⟨Try.t73.desc, 1, 8, .nilf⟩, ⟨⟨Try.t73, _, rfl, rfl, rfl, rfl, rfl⟩, rfl, rfl, Try.underlying73⟩⟩
noncomputable def ty74 : TE Try.prog := ⟨74, ⟨Try.t74.desc, 1, 8, .nilf⟩, ⟨⟨Try.t74, _, rfl, rfl, rfl, rfl, rfl⟩, rfl, rfl, Try.underlying74⟩⟩
noncomputable def ty75 : TE Try.prog := ⟨75, ⟨Try.t75.desc, 4, 48, .agg [.int .i64 (0), .int .u8 (0), .nils, .int .i64 (0)]⟩, ⟨⟨Try.t75, _, rfl, rfl, rfl, rfl, rfl⟩, rfl, rfl, Try.underlying75⟩⟩
noncomputable def ty76 : TE Try.prog := ⟨76, ⟨Try.t75.desc, 4, 48, .agg [.int .i64 (0), .int .u8 (0), .nils, .int .i64 (0)]⟩, ⟨⟨Try.t76, _, rfl, rfl, rfl, rfl, rfl⟩, rfl, rfl, Try.underlying76⟩⟩
noncomputable def ty77 : TE Try.prog := ⟨77, ⟨Try.t77.desc, 2, 48, .agg [.nils, .nils]⟩, ⟨⟨Try.t77, _, rfl, rfl, rfl, rfl, rfl⟩, rfl, rfl, Try.underlying77⟩⟩
noncomputable def ty78 : TE Try.prog := ⟨78, ⟨Try.t77.desc, 2, 48, .agg [.nils, .nils]⟩, ⟨⟨Try.t78, _, rfl, rfl, rfl, rfl, rfl⟩, rfl, rfl, Try.underlying78⟩⟩
noncomputable def ty79 : TE Try.prog := ⟨79, ⟨Try.t79.desc, 1, 8, .nilf⟩, ⟨⟨Try.t79, _, rfl, rfl, rfl, rfl, rfl⟩, rfl, rfl, Try.underlying79⟩⟩
noncomputable def ty80 : TE Try.prog := ⟨80, ⟨Try.t80.desc, 1, 8, .nilf⟩, ⟨⟨Try.t80, _, rfl, rfl, rfl, rfl, rfl⟩, rfl, rfl, Try.underlying80⟩⟩
noncomputable def ty81 : TE Try.prog := ⟨81, ⟨Try.t81.desc, 1, 8, .nilf⟩, ⟨⟨Try.t81, _, rfl, rfl, rfl, rfl, rfl⟩, rfl, rfl, Try.underlying81⟩⟩
noncomputable def ty82 : TE Try.prog := ⟨82, ⟨Try.t82.desc, 1, 8, .nilf⟩, ⟨⟨Try.t82, _, rfl, rfl, rfl, rfl, rfl⟩, rfl, rfl, Try.underlying82⟩⟩
noncomputable def ty83 : TE Try.prog := ⟨83, ⟨Try.t83.desc, 1, 8, .nilf⟩, ⟨⟨Try.t83, _, rfl, rfl, rfl, rfl, rfl⟩, rfl, rfl, Try.underlying83⟩⟩
noncomputable def ty84 : TE Try.prog := ⟨84, ⟨Try.t84.desc, 1, 8, .nilf⟩, ⟨⟨Try.t84, _, rfl, rfl, rfl, rfl, rfl⟩, rfl, rfl, Try.underlying84⟩⟩
noncomputable def ty85 : TE Try.prog := ⟨85, ⟨Try.t85.desc, 1, 8, .nilf⟩, ⟨⟨Try.t85, _, rfl, rfl, rfl, rfl, rfl⟩, rfl, rfl, Try.underlying85⟩⟩
noncomputable def ty86 : TE Try.prog := ⟨86, ⟨Try.t86.desc, 1, 8, .nilf⟩, ⟨⟨Try.t86, _, rfl, rfl, rfl, rfl, rfl⟩, rfl, rfl, Try.underlying86⟩⟩
noncomputable def ty87 : TE Try.prog := ⟨87, ⟨Try.t87.desc, 1, 8, .nilf⟩, ⟨⟨Try.t87, _, rfl, rfl, rfl, rfl, rfl⟩, rfl, rfl, Try.underlying87⟩⟩
noncomputable def ty88 : TE Try.prog := ⟨88, ⟨Try.t88.desc, 1, 8, .nilf⟩, ⟨⟨Try.t88, _, rfl, rfl, rfl, rfl, rfl⟩, rfl, rfl, Try.underlying88⟩⟩
noncomputable def ty89 : TE Try.prog := ⟨89, ⟨Try.t2.desc, 1, 8, .int .i64 (0)⟩, ⟨⟨Try.t89, _, rfl, rfl, rfl, rfl, rfl⟩, rfl, rfl, Try.underlying89⟩⟩
noncomputable def ty90 : TE Try.prog := ⟨90, ⟨Try.t90.desc, 1, 8, .nilf⟩, ⟨⟨Try.t90, _, rfl, rfl, rfl, rfl, rfl⟩, rfl, rfl, Try.underlying90⟩⟩
noncomputable def ty91 : TE Try.prog := ⟨91, ⟨Try.t91.desc, 1, 8, .nilf⟩, ⟨⟨Try.t91, _, rfl, rfl, rfl, rfl, rfl⟩, rfl, rfl, Try.underlying91⟩⟩
noncomputable def ty92 : TE Try.prog := ⟨92, ⟨Try.t92.desc, 1, 24, .agg [.nils]⟩, ⟨⟨Try.t92, _, rfl, rfl, rfl, rfl, rfl⟩, rfl, rfl, Try.underlying92⟩⟩
noncomputable def ty93 : TE Try.prog := ⟨93, ⟨Try.t92.desc, 1, 24, .agg [.nils]⟩, ⟨⟨Try.t93, _, rfl, rfl, rfl, rfl, rfl⟩, rfl, rfl, Try.underlying93⟩⟩
noncomputable def ty94 : TE Try.prog := ⟨94, ⟨Try.t94.desc, 2, 48, .agg [.nils, .nils]⟩, ⟨⟨Try.t94, _, rfl, rfl, rfl, rfl, rfl⟩, rfl, rfl, Try.underlying94⟩⟩
noncomputable def ty95 : TE Try.prog := ⟨95, ⟨Try.t94.desc, 2, 48, .agg [.nils, .nils]⟩, ⟨⟨Try.t95, _, rfl, rfl, rfl, rfl, rfl⟩, rfl, rfl, Try.underlying95⟩⟩
noncomputable def ty96 : TE Try.prog := ⟨96, ⟨Try.t96.desc, 1, 8, .nilf⟩, ⟨⟨Try.t96, _, rfl, rfl, rfl, rfl, rfl⟩, rfl, rfl, Try.underlying96⟩⟩
noncomputable def ty97 : TE Try.prog := ⟨97, ⟨Try.t97.desc, 1, 8, .nilf⟩, ⟨⟨Try.t97, _, rfl, rfl, rfl, rfl, rfl⟩, rfl, rfl, Try.underlying97⟩⟩
noncomputable def ty98 : TE Try.prog := ⟨98, ⟨Try.t98.desc, 1, 8, .nilf⟩, ⟨⟨Try.t98, _, rfl, rfl, rfl, rfl, rfl⟩, rfl, rfl, Try.underlying98⟩⟩
noncomputable def ty99 : TE Try.prog := ⟨99, ⟨Try.t99.desc, 1, 8, .nilf⟩, ⟨⟨Try.t99, _, rfl, rfl, rfl, rfl, rfl⟩, rfl, rfl, Try.underlying99⟩⟩
noncomputable def ty100 : TE Try.prog := ⟨100, ⟨Try.t100.desc, 1, 8, .nilf⟩, ⟨⟨Try.t100, _, rfl, rfl, rfl, rfl, rfl⟩, rfl, rfl, Try.underlying100⟩⟩
noncomputable def ty101 : TE Try.prog := ⟨101, ⟨Try.t101.desc, 1, 8, .nilf⟩, ⟨⟨Try.t101, _, rfl, rfl, rfl, rfl, rfl⟩, rfl, rfl, Try.underlying101⟩⟩
noncomputable def ty102 : TE Try.prog := ⟨102, ⟨Try.t102.desc, 1, 8, .nilf⟩, ⟨⟨Try.t102, _, rfl, rfl, rfl, rfl, rfl⟩, rfl, rfl, Try.underlying102⟩⟩
noncomputable def ty103 : TE Try.prog := ⟨103, ⟨Try.t103.desc, 1, 8, .nilf⟩, ⟨⟨Try.t103, _, rfl, rfl, rfl, rfl, rfl⟩, rfl, rfl, Try.underlying103⟩⟩
noncomputable def ty104 : TE Try.prog := ⟨104, ⟨Try.t104.desc, 1, 8, .nilf⟩, ⟨⟨Try.t104, _, rfl, rfl, rfl, rfl, rfl⟩, rfl, rfl, Try.underlying104⟩⟩
noncomputable def ty105 : TE Try.prog := ⟨105, ⟨Try.t105.desc, 1, 0, .tup [.str [], .str []]⟩, ⟨⟨Try.t105, _, rfl, rfl, rfl, rfl, rfl⟩, rfl, rfl, Try.underlying105⟩⟩
noncomputable def ty106 : TE Try.prog := ⟨106, ⟨Try.t106.desc, 1, 8, .nilf⟩, ⟨⟨Try.t106, _, rfl, rfl, rfl, rfl, rfl⟩, rfl, rfl, Try.underlying106⟩⟩
noncomputable def ty107 : TE Try.prog := ⟨107, ⟨Try.t107.desc, 1, 8, .nilf⟩, ⟨⟨Try.t107, _, rfl, rfl, rfl, rfl, rfl⟩, rfl, rfl, Try.underlying107⟩⟩
noncomputable def ty108 : TE Try.prog := ⟨108, ⟨Try.t107.desc, 1, 8, .nilf⟩, ⟨⟨Try.t108, _, rfl, rfl, rfl, rfl, rfl⟩, rfl, rfl, Try.underlying108⟩⟩
noncomputable def ty109 : TE Try.prog := ⟨109, ⟨Try.t109.desc, 1, 8, .nilf⟩, ⟨⟨Try.t109, _, rfl, rfl, rfl, rfl, rfl⟩, rfl, rfl, Try.underlying109⟩⟩
noncomputable def ty110 : TE Try.prog := ⟨110, ⟨Try.t110.desc, 1, 8, .int .u64 (0)⟩, ⟨⟨Try.t110, _, rfl, rfl, rfl, rfl, rfl⟩, rfl, rfl, Try.underlying110⟩⟩
noncomputable def ty111 : TE Try.prog := ⟨111, ⟨Try.t111.desc, 1, 8, .nilf⟩, ⟨⟨Try.t111, _, rfl, rfl, rfl, rfl, rfl⟩, rfl, rfl, Try.underlying111⟩⟩
noncomputable def ty112 : TE Try.prog := ⟨112, ⟨Try.t112.desc, 1, 8, .nilf⟩, ⟨⟨Try.t112, _, rfl, rfl, rfl, rfl, rfl⟩, rfl, rfl, Try.underlying112⟩⟩
noncomputable def ty113 : TE Try.prog := ⟨113, ⟨Try.t113.desc, 1, 8, .nilp⟩, ⟨⟨Try.t113, _, rfl, rfl, rfl, rfl, rfl⟩, rfl, rfl, Try.underlying113⟩⟩
noncomputable def ty114 : TE Try.prog := ⟨114, ⟨Try.t114.desc, 1, 24, .nils⟩, ⟨⟨Try.t114, _, rfl, rfl, rfl, rfl, rfl⟩, rfl, rfl, Try.underlying114⟩⟩
noncomputable def ty115 : TE Try.prog := ⟨115, ⟨Try.t115.desc, 1, 0, .tup [.nils, .bool false]⟩, ⟨⟨Try.t115, _, rfl, rfl, rfl, rfl, rfl⟩, rfl, rfl, Try.underlying115⟩⟩
noncomputable def ty116 : TE Try.prog := ⟨116, ⟨Try.t116.desc, 1, 8, .nilf⟩, ⟨⟨Try.t116, _, rfl, rfl, rfl, rfl, rfl⟩, rfl, rfl, Try.underlying116⟩⟩
noncomputable def ty117 : TE Try.prog := ⟨117, ⟨Try.t117.desc, 1, 8, .nilf⟩, ⟨⟨Try.t117, _, rfl, rfl, rfl, rfl, rfl⟩, rfl, rfl, Try.underlying117⟩⟩
noncomputable def ty118 : TE Try.prog := ⟨118, ⟨Try.t118.desc, 1, 8, .nilf⟩, ⟨⟨Try.t118, _, rfl, rfl, rfl, rfl, rfl⟩, rfl, rfl, Try.underlying118⟩⟩
noncomputable def ty119 : TE Try.prog := ⟨119, ⟨Try.t119.desc, 1, 8, .nilf⟩, ⟨⟨Try.t119, _, rfl, rfl, rfl, rfl, rfl⟩, rfl, rfl, Try.underlying119⟩⟩
noncomputable def ty120 : TE Try.prog := ⟨120, ⟨Try.t119.desc, 1, 8, .nilf⟩, ⟨⟨Try.t120, _, rfl, rfl, rfl, rfl, rfl⟩, rfl, rfl, Try.underlying120⟩⟩
noncomputable def ty121 : TE Try.prog := ⟨121, ⟨Try.t121.desc, 1, 8, .nilf⟩, ⟨⟨Try.t121, _, rfl, rfl, rfl, rfl, rfl⟩, rfl, rfl, Try.underlying121⟩⟩
noncomputable def ty122 : TE Try.prog := ⟨122, ⟨Try.t122.desc, 1, 8, .nilf⟩, ⟨⟨Try.t122, _, rfl, rfl, rfl, rfl, rfl⟩, rfl, rfl, Try.underlying122⟩⟩
noncomputable def ty123 : TE Try.prog := ⟨123, ⟨Try.t123.desc, 1, 8, .nilf⟩, ⟨⟨Try.t123, _, rfl, rfl, rfl, rfl, rfl⟩, rfl, rfl, Try.underlying123⟩⟩
noncomputable def ty124 : TE Try.prog := ⟨124, ⟨Try.t124.desc, 1, 8, .int .u64 (0)⟩, ⟨⟨Try.t124, _, rfl, rfl, rfl, rfl, rfl⟩, rfl, rfl, Try.underlying124⟩⟩
noncomputable def ty125 : TE Try.prog := ⟨125, ⟨Try.t125.desc, 1, 8, .nilf⟩, ⟨⟨Try.t125, _, rfl, rfl, rfl, rfl, rfl⟩, rfl, rfl, Try.underlying125⟩⟩
noncomputable def ty126 : TE Try.prog := ⟨126, ⟨Try.t126.desc, 1, 8, .nilf⟩, ⟨⟨Try.t126, _, rfl, rfl, rfl, rfl, rfl⟩, rfl, rfl, Try.underlying126⟩⟩
noncomputable def ty127 : TE Try.prog := ⟨127, ⟨Try.t127.desc, 1, 8, .nilf⟩, ⟨⟨Try.t127, _, rfl, rfl, rfl, rfl, rfl⟩, rfl, rfl, Try.underlying127⟩⟩
noncomputable def ty128 : TE Try.prog := ⟨128, ⟨Try.t128.desc, 1, 8, .nilf⟩, ⟨⟨Try.t128, _, rfl, rfl, rfl, rfl, rfl⟩, rfl, rfl, Try.underlying128⟩⟩
noncomputable def ty129 : TE Try.prog := ⟨129, ⟨Try.t129.desc, 4, 40, .agg [.nilp, .nilp, .nilp, .str []]⟩, ⟨⟨Try.t129, _, rfl, rfl, rfl, rfl, rfl⟩, rfl, rfl, Try.underlying129⟩⟩
noncomputable def ty130 : TE Try.prog := ⟨130, ⟨Try.t129.desc, 4, 40, .agg [.nilp, .nilp, .nilp, .str []]⟩, ⟨⟨Try.t130, _, rfl, rfl, rfl, rfl, rfl⟩, rfl, rfl, Try.underlying130⟩⟩
noncomputable def ty131 : TE Try.prog := ⟨131, ⟨Try.t131.desc, 0, 0, .agg []⟩, ⟨⟨Try.t131, _, rfl, rfl, rfl, rfl, rfl⟩, rfl, rfl, Try.underlying131⟩⟩
noncomputable def ty132 : TE Try.prog := ⟨132, ⟨Try.t132.desc, 0, 0, .agg []⟩, ⟨⟨Try.t132, _, rfl, rfl, rfl, rfl, rfl⟩, rfl, rfl, Try.underlying132⟩⟩
noncomputable def ty133 : TE Try.prog := ⟨133, ⟨Try.t132.desc, 0, 0, .agg []⟩, ⟨⟨Try.t133, _, rfl, rfl, rfl, rfl, rfl⟩, rfl, rfl, Try.underlying133⟩⟩
noncomputable def ty134 : TE Try.prog := ⟨134, ⟨Try.t134.desc, 1, 4, .int .u32 (0)⟩, ⟨⟨Try.t134, _, rfl, rfl, rfl, rfl, rfl⟩, rfl, rfl, Try.underlying134⟩⟩
noncomputable def ty135 : TE Try.prog := ⟨135, ⟨Try.t5.desc, 1, 1, .int .u8 (0)⟩, ⟨⟨Try.t135, _, rfl, rfl, rfl, rfl, rfl⟩, rfl, rfl, Try.underlying135⟩⟩
noncomputable def ty136 : TE Try.prog := ⟨136, ⟨Try.t5.desc, 1, 1, .int .u8 (0)⟩, ⟨⟨Try.t136, _, rfl, rfl, rfl, rfl, rfl⟩, rfl, rfl, Try.underlying136⟩⟩
noncomputable def ty137 : TE Try.prog := ⟨137, ⟨Try.t137.desc, 1, 8, .nilf⟩, ⟨⟨Try.t137, _, rfl, rfl, rfl, rfl, rfl⟩, rfl, rfl, Try.underlying137⟩⟩
noncomputable def ty138 : TE Try.prog := ⟨138, ⟨Try.t138.desc, 1, 8, .nilp⟩, ⟨⟨Try.t138, _, rfl, rfl, rfl, rfl, rfl⟩, rfl, rfl, Try.underlying138⟩⟩
noncomputable def ty139 : TE Try.prog := ⟨139, ⟨Try.t21.desc, 1, 4, .int .i32 (0)⟩, ⟨⟨Try.t139, _, rfl, rfl, rfl, rfl, rfl⟩, rfl, rfl, Try.underlying139⟩⟩
noncomputable def ty140 : TE Try.prog := ⟨140, ⟨Try.t21.desc, 1, 4, .int .i32 (0)⟩, ⟨⟨Try.t140, _, rfl, rfl, rfl, rfl, rfl⟩, rfl, rfl, Try.underlying140⟩⟩
noncomputable def ty141 : TE Try.prog := ⟨141, ⟨Try.t141.desc, 11, 48, .agg [.int .u64 (0), .int .u64 (0), .int .u32 (0), .int .u8 (0), .int .u8 (0), .int .u8 (0), .int .u8 (0), .nilf, .nilp, .int .i32 (0), .int .i32 (0)]⟩, ⟨⟨Try.t141, _, rfl, rfl, rfl, rfl, rfl⟩, rfl, rfl, Try.underlying141⟩⟩
noncomputable def ty142 : TE Try.prog := ⟨142, ⟨Try.t141.desc, 11, 48, .agg [.int .u64 (0), .int .u64 (0), .int .u32 (0), .int .u8 (0), .int .u8 (0), .int .u8 (0), .int .u8 (0), .nilf, .nilp, .int .i32 (0), .int .i32 (0)]⟩, ⟨⟨Try.t142, _, rfl, rfl, rfl, rfl, rfl⟩, rfl, rfl, Try.underlying142⟩⟩
noncomputable def ty143 : TE Try.prog := ⟨143, ⟨Try.t143.desc, 1, 8, .nilp⟩, ⟨⟨Try.t143, _, rfl, rfl, rfl, rfl, rfl⟩, rfl, rfl, Try.underlying143⟩⟩
noncomputable def fu2 : FE Try.prog := ⟨2, ⟨Try.f2.body.getD .skip, 1, [], some (rle true [0, 1])⟩, ⟨⟨Try.f2, Try.func2, rfl, rfl, rfl⟩, Try.call2⟩⟩
noncomputable def fu3 : FE Try.prog := ⟨3, ⟨Try.f3.body.getD .skip, 114, [.tmp 4], some (rle true [2, 2, 11, 7, 1, 7, 1, 42, 1, 6, 1, 33])⟩, ⟨⟨Try.f3, Try.func3, rfl, rfl, rfl⟩, Try.call3⟩⟩
noncomputable def fu4 : FE Try.prog := ⟨4, ⟨Try.f4.body.getD .skip, 94, [.tmp 6], some (rle true [3, 3, 10, 2, 1, 75])⟩, ⟨⟨Try.f4, Try.func4, rfl, rfl, rfl⟩, Try.call4⟩⟩
noncomputable def fu5 : FE Try.prog := ⟨5, ⟨Try.f5.body.getD .skip, 79, [.tmp 8], some (rle true [4, 4, 9, 62])⟩, ⟨⟨Try.f5, Try.func5, rfl, rfl, rfl⟩, Try.call5⟩⟩
noncomputable def fu6 : FE Try.prog := ⟨6, ⟨Try.f6.body.getD .skip, 129, [.tmp 6], some (rle true [3, 3, 11, 7, 4, 11, 1, 89])⟩, ⟨⟨Try.f6, Try.func6, rfl, rfl, rfl⟩, Try.call6⟩⟩
noncomputable def fu7 : FE Try.prog := ⟨7, ⟨Try.f7.body.getD .skip, 134, [.tmp 4], some (rle true [2, 2, 16, 112, 1, 1])⟩, ⟨⟨Try.f7, Try.func7, rfl, rfl, rfl⟩, Try.call7⟩⟩
noncomputable def fu8 : FE Try.prog := ⟨8, ⟨Try.f8.body.getD .skip, 111, [.tmp 6], some (rle true [3, 3, 8, 13, 1, 14, 1, 31, 1, 36])⟩, ⟨⟨Try.f8, Try.func8, rfl, rfl, rfl⟩, Try.call8⟩⟩
noncomputable def fu9 : FE Try.prog := ⟨9, ⟨Try.f9.body.getD .skip, 271, [.tmp 0], some (rle true [4, 1, 1, 1, 5, 1, 3, 1, 3, 1, 1, 1, 1, 1, 1, 1, 1, 1, 1, 93, 4, 43, 4, 97])⟩, ⟨⟨Try.f9, Try.func9, rfl, rfl, rfl⟩, Try.call9⟩⟩
noncomputable def fu10 : FE Try.prog := ⟨10, ⟨Try.f10.body.getD .skip, 99, [.tmp 4], some (rle true [2, 2, 9, 11, 1, 19, 1, 13, 4, 7, 1, 29])⟩, ⟨⟨Try.f10, Try.func10, rfl, rfl, rfl⟩, Try.call10⟩⟩
noncomputable def fu11 : FE Try.prog := ⟨11, ⟨Try.f11.body.getD .skip, 132, [.tmp 4], some (rle true [2, 2, 5, 1, 8, 16, 1, 7, 1, 7, 4, 24, 1, 4, 1, 17, 1, 1, 1, 1, 1, 23, 1, 2])⟩, ⟨⟨Try.f11, Try.func11, rfl, rfl, rfl⟩, Try.call11⟩⟩
noncomputable def fu12 : FE Try.prog := ⟨12, ⟨Try.f12.body.getD .skip, 155, [.tmp 4], some (rle true [2, 2, 13, 11, 1, 37, 1, 20, 1, 67])⟩, ⟨⟨Try.f12, Try.func12, rfl, rfl, rfl⟩, Try.call12⟩⟩
noncomputable def fu13 : FE Try.prog := ⟨13, ⟨Try.f13.body.getD .skip, 116, [.tmp 4], some (rle true [2, 2, 11, 20, 1, 7, 1, 6, 3, 7, 1, 12, 1, 34, 1, 7])⟩, ⟨⟨Try.f13, Try.func13, rfl, rfl, rfl⟩, Try.call13⟩⟩
noncomputable def fu14 : FE Try.prog := ⟨14, ⟨Try.f14.body.getD .skip, 138, [.tmp 4], some (rle true [2, 2, 10, 2, 1, 19, 1, 1, 1, 1, 3, 8, 1, 44, 1, 1, 3, 5, 3, 29])⟩, ⟨⟨Try.f14, Try.func14, rfl, rfl, rfl⟩, Try.call14⟩⟩
noncomputable def fu15 : FE Try.prog := ⟨15, ⟨Try.f15.body.getD .skip, 338, [.tmp 0], some (rle true [13, 1, 1, 1, 1, 1, 4, 1, 1, 1, 7, 1, 1, 1, 2, 75, 1, 225])⟩, ⟨⟨Try.f15, Try.func15, rfl, rfl, rfl⟩, Try.call15⟩⟩
noncomputable def fu16 : FE Try.prog := ⟨16, ⟨Try.f16.body.getD .skip, 26, [.tmp 0], some (rle true [1, 25])⟩, ⟨⟨Try.f16, Try.func16, rfl, rfl, rfl⟩, Try.call16⟩⟩
noncomputable def fu17 : FE Try.prog := ⟨17, ⟨Try.f17.body.getD .skip, 12, [.tmp 2, .tmp 3], some (rle true [1, 1, 2, 5, 1, 2])⟩, ⟨⟨Try.f17, Try.func17, rfl, rfl, rfl⟩, Try.call17⟩⟩
noncomputable def fu18 : FE Try.prog := ⟨18, ⟨Try.f18.body.getD .skip, 47, [.tmp 2, .tmp 3], some (rle true [1, 1, 6, 2, 5, 12, 1, 17, 1, 1])⟩, ⟨⟨Try.f18, Try.func18, rfl, rfl, rfl⟩, Try.call18⟩⟩
noncomputable def fu19 : FE Try.prog := ⟨19, ⟨Try.f19.body.getD .skip, 26, [.tmp 2], some (rle true [1, 1, 7, 15, 1, 1])⟩, ⟨⟨Try.f19, Try.func19, rfl, rfl, rfl⟩, Try.call19⟩⟩
noncomputable def fu20 : FE Try.prog := ⟨20, ⟨Try.f20.body.getD .skip, 12, [.tmp 2, .tmp 3], some (rle true [1, 1, 2, 5, 1, 2])⟩, ⟨⟨Try.f20, Try.func20, rfl, rfl, rfl⟩, Try.call20⟩⟩
noncomputable def fu21 : FE Try.prog := ⟨21, ⟨Try.f21.body.getD .skip, 51, [.tmp 2, .tmp 3], some (rle true [1, 1, 7, 2, 1, 3, 1, 15, 1, 9, 1, 7, 1, 1])⟩, ⟨⟨Try.f21, Try.func21, rfl, rfl, rfl⟩, Try.call21⟩⟩
noncomputable def fu22 : FE Try.prog := ⟨22, ⟨Try.f22.body.getD .skip, 27, [.tmp 2], some (rle true [1, 1, 2, 3, 1, 13, 1, 4, 1])⟩, ⟨⟨Try.f22, Try.func22, rfl, rfl, rfl⟩, Try.call22⟩⟩
noncomputable def fu23 : FE Try.prog := ⟨23, ⟨Try.f23.body.getD .skip, 6, [.tmp 2], some (rle true [1, 1, 1, 3])⟩, ⟨⟨Try.f23, Try.func23, rfl, rfl, rfl⟩, Try.call23⟩⟩
noncomputable def fu24 : FE Try.prog := ⟨24, ⟨Try.f24.body.getD .skip, 6, [.tmp 2], some (rle true [1, 1, 1, 3])⟩, ⟨⟨Try.f24, Try.func24, rfl, rfl, rfl⟩, Try.call24⟩⟩
noncomputable def fu25 : FE Try.prog := ⟨25, ⟨Try.f25.body.getD .skip, 19, [.tmp 4, .tmp 5], some (rle true [2, 2, 3, 2, 1, 2, 1, 6])⟩, ⟨⟨Try.f25, Try.func25, rfl, rfl, rfl⟩, Try.call25⟩⟩
noncomputable def fu26 : FE Try.prog := ⟨26, ⟨Try.f26.body.getD .skip, 42, [.tmp 4, .tmp 5], some (rle true [2, 2, 3, 2, 1, 3, 3, 3, 1, 3, 1, 3, 1, 2, 1, 3, 1, 7])⟩, ⟨⟨Try.f26, Try.func26, rfl, rfl, rfl⟩, Try.call26⟩⟩
noncomputable def fu27 : FE Try.prog := ⟨27, ⟨Try.f27.body.getD .skip, 27, [.tmp 6, .tmp 7], some (rle true [3, 3, 3, 2, 1, 2, 1, 12])⟩, ⟨⟨Try.f27, Try.func27, rfl, rfl, rfl⟩, Try.call27⟩⟩
noncomputable def fu28 : FE Try.prog := ⟨28, ⟨Try.f28.body.getD .skip, 101, [.tmp 6, .tmp 7], some (rle true [3, 3, 4, 2, 1, 9, 3, 4, 1, 4, 1, 8, 1, 8, 1, 6, 1, 5, 1, 5, 1, 5, 1, 5, 1, 5, 1, 3, 1, 4, 1, 2])⟩, ⟨⟨Try.f28, Try.func28, rfl, rfl, rfl⟩, Try.call28⟩⟩
noncomputable def fu29 : FE Try.prog := ⟨29, ⟨Try.f29.body.getD .skip, 15, [.tmp 6], some (rle true [3, 3, 1, 8])⟩, ⟨⟨Try.f29, Try.func29, rfl, rfl, rfl⟩, Try.call29⟩⟩
noncomputable def fu30 : FE Try.prog := ⟨30, ⟨Try.f30.body.getD .skip, 15, [.tmp 6], some (rle true [3, 3, 1, 8])⟩, ⟨⟨Try.f30, Try.func30, rfl, rfl, rfl⟩, Try.call30⟩⟩
noncomputable def fu31 : FE Try.prog := ⟨31, ⟨Try.f31.body.getD .skip, 14, [.tmp 2], some (rle true [1, 1, 2, 3, 1, 3, 1, 2])⟩, ⟨⟨Try.f31, Try.func31, rfl, rfl, rfl⟩, Try.call31⟩⟩
noncomputable def fu32 : FE Try.prog := ⟨32, ⟨Try.f32.body.getD .skip, 27, [.tmp 2], some (rle true [1, 1, 3, 6, 1, 13, 1, 1])⟩, ⟨⟨Try.f32, Try.func32, rfl, rfl, rfl⟩, Try.call32⟩⟩
noncomputable def fu33 : FE Try.prog := ⟨33, ⟨Try.f33.body.getD .skip, 26, [.tmp 4], some (rle true [2, 2, 3, 19])⟩, ⟨⟨Try.f33, Try.func33, rfl, rfl, rfl⟩, Try.call33⟩⟩
noncomputable def fu34 : FE Try.prog := ⟨34, ⟨Try.f34.body.getD .skip, 37, [.tmp 4], some (rle true [2, 2, 5, 28])⟩, ⟨⟨Try.f34, Try.func34, rfl, rfl, rfl⟩, Try.call34⟩⟩
noncomputable def fu35 : FE Try.prog := ⟨35, ⟨Try.f35.body.getD .skip, 11, [.tmp 0], some (rle true [1, 10])⟩, ⟨⟨Try.f35, Try.func35, rfl, rfl, rfl⟩, Try.call35⟩⟩
noncomputable def fu36 : FE Try.prog := ⟨36, ⟨Try.f36.body.getD .skip, 40, [.tmp 4], some (rle true [2, 2, 3, 1, 3, 6, 1, 2, 3, 7, 1, 9])⟩, ⟨⟨Try.f36, Try.func36, rfl, rfl, rfl⟩, Try.call36⟩⟩
noncomputable def fu37 : FE Try.prog := ⟨37, ⟨Try.f37.body.getD .skip, 30, [.tmp 2, .tmp 3], some (rle true [1, 1, 3, 1, 1, 2, 4, 4, 1, 10, 1, 1])⟩, ⟨⟨Try.f37, Try.func37, rfl, rfl, rfl⟩, Try.call37⟩⟩
noncomputable def fu38 : FE Try.prog := ⟨38, ⟨Try.f38.body.getD .skip, 52, [.tmp 4], some (rle true [2, 2, 4, 2, 1, 3, 1, 27, 1, 3, 1, 5])⟩, ⟨⟨Try.f38, Try.func38, rfl, rfl, rfl⟩, Try.call38⟩⟩
noncomputable def fu39 : FE Try.prog := ⟨39, ⟨Try.f39.body.getD .skip, 28, [.tmp 4], some (rle true [2, 2, 2, 4, 1, 3, 1, 12, 1])⟩, ⟨⟨Try.f39, Try.func39, rfl, rfl, rfl⟩, Try.call39⟩⟩
noncomputable def fu40 : FE Try.prog := ⟨40, ⟨Try.f40.body.getD .skip, 11, [.tmp 2], some (rle true [1, 1, 1, 1, 1, 6])⟩, ⟨⟨Try.f40, Try.func40, rfl, rfl, rfl⟩, Try.call40⟩⟩
noncomputable def fu41 : FE Try.prog := ⟨41, ⟨Try.f41.body.getD .skip, 11, [.tmp 2], some (rle true [1, 1, 1, 1, 1, 6])⟩, ⟨⟨Try.f41, Try.func41, rfl, rfl, rfl⟩, Try.call41⟩⟩
noncomputable def fu42 : FE Try.prog := ⟨42, ⟨Try.f42.body.getD .skip, 9, [.tmp 2], some (rle true [1, 1, 1, 1, 1, 4])⟩, ⟨⟨Try.f42, Try.func42, rfl, rfl, rfl⟩, Try.call42⟩⟩
noncomputable def fu43 : FE Try.prog := ⟨43, ⟨Try.f43.body.getD .skip, 26, [.tmp 4, .tmp 5], some (rle true [2, 2, 3, 2, 1, 16])⟩, ⟨⟨Try.f43, Try.func43, rfl, rfl, rfl⟩, Try.call43⟩⟩
noncomputable def fu44 : FE Try.prog := ⟨44, ⟨Try.f44.body.getD .skip, 6, [.tmp 2], some (rle true [1, 1, 1, 3])⟩, ⟨⟨Try.f44, Try.func44, rfl, rfl, rfl⟩, Try.call44⟩⟩
noncomputable def fu45 : FE Try.prog := ⟨45, ⟨Try.f45.body.getD .skip, 23, [.tmp 4], some (rle true [2, 2, 2, 2, 1, 3, 1, 10])⟩, ⟨⟨Try.f45, Try.func45, rfl, rfl, rfl⟩, Try.call45⟩⟩
noncomputable def fu46 : FE Try.prog := ⟨46, ⟨Try.f46.body.getD .skip, 19, [.tmp 2, .tmp 3], some (rle true [1, 1, 4, 6, 1, 6])⟩, ⟨⟨Try.f46, Try.func46, rfl, rfl, rfl⟩, Try.call46⟩⟩
noncomputable def fu47 : FE Try.prog := ⟨47, ⟨Try.f47.body.getD .skip, 38, [.tmp 2, .tmp 3], some (rle true [1, 1, 4, 5, 1, 7, 1, 16, 1, 1])⟩, ⟨⟨Try.f47, Try.func47, rfl, rfl, rfl⟩, Try.call47⟩⟩
noncomputable def fu48 : FE Try.prog := ⟨48, ⟨Try.f48.body.getD .skip, 153, [.tmp 6], some (rle true [3, 2, 19, 1, 2, 10, 1, 22, 3, 9, 1, 21, 1, 26, 3, 9, 1, 19])⟩, ⟨⟨Try.f48, Try.func48, rfl, rfl, rfl⟩, Try.call48⟩⟩
noncomputable def fu49 : FE Try.prog := ⟨49, ⟨Try.f49.body.getD .skip, 40, [.tmp 2], some (rle true [1, 1, 2, 36])⟩, ⟨⟨Try.f49, Try.func49, rfl, rfl, rfl⟩, Try.call49⟩⟩
noncomputable def fu50 : FE Try.prog := ⟨50, ⟨Try.f50.body.getD .skip, 27, [.tmp 6], some (rle true [3, 3, 2, 1, 1, 2, 4, 5, 1, 5])⟩, ⟨⟨Try.f50, Try.func50, rfl, rfl, rfl⟩, Try.call50⟩⟩
noncomputable def fu51 : FE Try.prog := ⟨51, ⟨Try.f51.body.getD .skip, 29, [.tmp 2], some (rle true [1, 1, 5, 1, 3, 16, 1, 1])⟩, ⟨⟨Try.f51, Try.func51, rfl, rfl, rfl⟩, Try.call51⟩⟩
noncomputable def fu52 : FE Try.prog := ⟨52, ⟨Try.f52.body.getD .skip, 19, [.tmp 2], some (rle true [1, 1, 2, 1, 1, 1, 4, 8])⟩, ⟨⟨Try.f52, Try.func52, rfl, rfl, rfl⟩, Try.call52⟩⟩
noncomputable def fu53 : FE Try.prog := ⟨53, ⟨Try.f53.body.getD .skip, 28, [.tmp 2, .tmp 3], some (rle true [1, 1, 5, 6, 1, 7, 1, 6])⟩, ⟨⟨Try.f53, Try.func53, rfl, rfl, rfl⟩, Try.call53⟩⟩
noncomputable def fu54 : FE Try.prog := ⟨54, ⟨Try.f54.body.getD .skip, 35, [.tmp 2], some (rle true [1, 1, 5, 1, 1, 2, 3, 1, 1, 6, 1, 12])⟩, ⟨⟨Try.f54, Try.func54, rfl, rfl, rfl⟩, Try.call54⟩⟩
noncomputable def fu55 : FE Try.prog := ⟨55, ⟨Try.f55.body.getD .skip, 10, [.tmp 4], some (rle true [2, 2, 1, 5])⟩, ⟨⟨Try.f55, Try.func55, rfl, rfl, rfl⟩, Try.call55⟩⟩
noncomputable def fu56 : FE Try.prog := ⟨56, ⟨Try.f56.body.getD .skip, 47, [.tmp 2], some (rle true [1, 1, 4, 2, 1, 3, 1, 10, 1, 7, 1, 5, 1, 9])⟩, ⟨⟨Try.f56, Try.func56, rfl, rfl, rfl⟩, Try.call56⟩⟩
noncomputable def fu57 : FE Try.prog := ⟨57, ⟨Try.f57.body.getD .skip, 4, [.tmp 2], some (rle true [1, 1, 2])⟩, ⟨⟨Try.f57, Try.func57, rfl, rfl, rfl⟩, Try.call57⟩⟩
noncomputable def fu58 : FE Try.prog := ⟨58, ⟨Try.f58.body.getD .skip, 4, [.tmp 2], some (rle true [1, 1, 2])⟩, ⟨⟨Try.f58, Try.func58, rfl, rfl, rfl⟩, Try.call58⟩⟩
noncomputable def fu59 : FE Try.prog := ⟨59, ⟨Try.f59.body.getD .skip, 16, [.tmp 2], some (rle true [1, 1, 3, 1, 1, 1, 1, 1, 1, 1, 1, 1, 1, 1])⟩, ⟨⟨Try.f59, Try.func59, rfl, rfl, rfl⟩, Try.call59⟩⟩
noncomputable def fu60 : FE Try.prog := ⟨60, ⟨Try.f60.body.getD .skip, 9, [.tmp 2], some (rle true [1, 1, 1, 6])⟩, ⟨⟨Try.f60, Try.func60, rfl, rfl, rfl⟩, Try.call60⟩⟩
noncomputable def fu61 : FE Try.prog := ⟨61, ⟨Try.f61.body.getD .skip, 9, [.tmp 2], some (rle true [1, 1, 1, 6])⟩, ⟨⟨Try.f61, Try.func61, rfl, rfl, rfl⟩, Try.call61⟩⟩
noncomputable def fu62 : FE Try.prog := ⟨62, ⟨Try.f62.body.getD .skip, 29, [.tmp 2], some (rle true [1, 1, 3, 1, 1, 1, 1, 1, 1, 1, 1, 2, 1, 1, 1, 1, 1, 1, 1, 1, 1, 1, 1, 1, 1, 1])⟩, ⟨⟨Try.f62, Try.func62, rfl, rfl, rfl⟩, Try.call62⟩⟩
noncomputable def fu63 : FE Try.prog := ⟨63, ⟨Try.f63.body.getD .skip, 13, [], some (rle true [2, 11])⟩, ⟨⟨Try.f63, Try.func63, rfl, rfl, rfl⟩, Try.call63⟩⟩
noncomputable def fu64 : FE Try.prog := ⟨64, ⟨Try.f64.body.getD .skip, 8, [.tmp 2], some (rle true [1, 1, 1, 1, 1, 3])⟩, ⟨⟨Try.f64, Try.func64, rfl, rfl, rfl⟩, Try.call64⟩⟩
noncomputable def fu65 : FE Try.prog := ⟨65, ⟨Try.f65.body.getD .skip, 12, [.tmp 2], some (rle true [1, 1, 1, 9])⟩, ⟨⟨Try.f65, Try.func65, rfl, rfl, rfl⟩, Try.call65⟩⟩
noncomputable def fu66 : FE Try.prog := ⟨66, ⟨Try.f66.body.getD .skip, 8, [.tmp 2], some (rle true [1, 1, 1, 5])⟩, ⟨⟨Try.f66, Try.func66, rfl, rfl, rfl⟩, Try.call66⟩⟩
noncomputable def fu67 : FE Try.prog := ⟨67, ⟨Try.f67.body.getD .skip, 30, [.tmp 2], some (rle true [1, 1, 3, 2, 1, 7, 1, 6, 1, 2, 1, 2, 1, 1])⟩, ⟨⟨Try.f67, Try.func67, rfl, rfl, rfl⟩, Try.call67⟩⟩
noncomputable def fu68 : FE Try.prog := ⟨68, ⟨Try.f68.body.getD .skip, 8, [.tmp 2], some (rle true [1, 1, 1, 1, 1, 3])⟩, ⟨⟨Try.f68, Try.func68, rfl, rfl, rfl⟩, Try.call68⟩⟩
noncomputable def fu69 : FE Try.prog := ⟨69, ⟨Try.f69.body.getD .skip, 101, [.tmp 4], some (rle true [2, 2, 4, 1, 1, 5, 1, 6, 4, 12, 1, 4, 1, 9, 1, 5, 1, 8, 1, 5, 1, 9, 1, 7, 1, 8])⟩, ⟨⟨Try.f69, Try.func69, rfl, rfl, rfl⟩, Try.call69⟩⟩
noncomputable def fu70 : FE Try.prog := ⟨70, ⟨Try.f70.body.getD .skip, 19, [.tmp 2], some (rle true [1, 1, 2, 1, 5, 9])⟩, ⟨⟨Try.f70, Try.func70, rfl, rfl, rfl⟩, Try.call70⟩⟩
noncomputable def fu71 : FE Try.prog := ⟨71, ⟨Try.f71.body.getD .skip, 17, [.tmp 4], some (rle true [2, 1, 5, 1, 3, 2, 1, 2])⟩, ⟨⟨Try.f71, Try.func71, rfl, rfl, rfl⟩, Try.call71⟩⟩
noncomputable def fu72 : FE Try.prog := ⟨72, ⟨Try.f72.body.getD .skip, 32, [.tmp 4], some (rle true [2, 2, 3, 25])⟩, ⟨⟨Try.f72, Try.func72, rfl, rfl, rfl⟩, Try.call72⟩⟩
noncomputable def fu73 : FE Try.prog := ⟨73, ⟨Try.f73.body.getD .skip, 7, [.tmp 2], some (rle true [1, 1, 2, 3])⟩, ⟨⟨Try.f73, Try.func73, rfl, rfl, rfl⟩, Try.call73⟩⟩
noncomputable def fu74 : FE Try.prog := ⟨74, ⟨Try.f74.body.getD .skip, 47, [.tmp 4], some (rle true [2, 2, 4, 3, 1, 7, 1, 12, 1, 14])⟩, ⟨⟨Try.f74, Try.func74, rfl, rfl, rfl⟩, Try.call74⟩⟩
noncomputable def fu75 : FE Try.prog := ⟨75, ⟨Try.f75.body.getD .skip, 31, [.tmp 4], some (rle true [2, 2, 1, 2, 1, 11, 1, 11])⟩, ⟨⟨Try.f75, Try.func75, rfl, rfl, rfl⟩, Try.call75⟩⟩
noncomputable def fu76 : FE Try.prog := ⟨76, ⟨Try.f76.body.getD .skip, 29, [.tmp 2, .tmp 3], some (rle true [1, 1, 4, 6, 1, 16])⟩, ⟨⟨Try.f76, Try.func76, rfl, rfl, rfl⟩, Try.call76⟩⟩
noncomputable def fu77 : FE Try.prog := ⟨77, ⟨Try.f77.body.getD .skip, 32, [.tmp 4, .tmp 5], some (rle true [2, 2, 2, 10, 1, 15])⟩, ⟨⟨Try.f77, Try.func77, rfl, rfl, rfl⟩, Try.call77⟩⟩
noncomputable def fu78 : FE Try.prog := ⟨78, ⟨Try.f78.body.getD .skip, 39, [.tmp 2, .tmp 3], some (rle true [1, 1, 6, 6, 1, 7, 1, 16])⟩, ⟨⟨Try.f78, Try.func78, rfl, rfl, rfl⟩, Try.call78⟩⟩
noncomputable def fu79 : FE Try.prog := ⟨79, ⟨Try.f79.body.getD .skip, 31, [.tmp 2, .tmp 3], some (rle true [1, 1, 4, 1, 1, 1, 1, 1, 1, 1, 1, 1, 1, 1, 1, 1, 1, 1, 1, 1, 1, 1, 1, 1, 1, 1, 1, 1])⟩, ⟨⟨Try.f79, Try.func79, rfl, rfl, rfl⟩, Try.call79⟩⟩
noncomputable def fu80 : FE Try.prog := ⟨80, ⟨Try.f80.body.getD .skip, 4, [.tmp 2], some (rle true [3, 1])⟩, ⟨⟨Try.f80, Try.func80, rfl, rfl, rfl⟩, Try.call80⟩⟩
noncomputable def fu81 : FE Try.prog := ⟨81, ⟨Try.f81.body.getD .skip, 10, [.tmp 2], some (rle true [1, 1, 1, 1, 1, 5])⟩, ⟨⟨Try.f81, Try.func81, rfl, rfl, rfl⟩, Try.call81⟩⟩
noncomputable def fu82 : FE Try.prog := ⟨82, ⟨Try.f82.body.getD .skip, 5, [.tmp 2], some (rle true [1, 1, 1, 2])⟩, ⟨⟨Try.f82, Try.func82, rfl, rfl, rfl⟩, Try.call82⟩⟩
noncomputable def fu83 : FE Try.prog := ⟨83, ⟨Try.f83.body.getD .skip, 5, [.tmp 2], some (rle true [1, 1, 1, 2])⟩, ⟨⟨Try.f83, Try.func83, rfl, rfl, rfl⟩, Try.call83⟩⟩
noncomputable def fu84 : FE Try.prog := ⟨84, ⟨Try.f84.body.getD .skip, 5, [.tmp 2], some (rle true [1, 1, 1, 2])⟩, ⟨⟨Try.f84, Try.func84, rfl, rfl, rfl⟩, Try.call84⟩⟩
noncomputable def fu85 : FE Try.prog := ⟨85, ⟨Try.f85.body.getD .skip, 6, [.tmp 2], some (rle true [1, 1, 1, 3])⟩, ⟨⟨Try.f85, Try.func85, rfl, rfl, rfl⟩, Try.call85⟩⟩
noncomputable def fu86 : FE Try.prog := ⟨86, ⟨Try.f86.body.getD .skip, 6, [.tmp 2], some (rle true [1, 1, 1, 3])⟩, ⟨⟨Try.f86, Try.func86, rfl, rfl, rfl⟩, Try.call86⟩⟩
noncomputable def fu87 : FE Try.prog := ⟨87, ⟨Try.f87.body.getD .skip, 6, [.tmp 2], some (rle true [1, 1, 1, 3])⟩, ⟨⟨Try.f87, Try.func87, rfl, rfl, rfl⟩, Try.call87⟩⟩
noncomputable def fu88 : FE Try.prog := ⟨88, ⟨Try.f88.body.getD .skip, 8, [.tmp 4], some (rle true [2, 2, 1, 3])⟩, ⟨⟨Try.f88, Try.func88, rfl, rfl, rfl⟩, Try.call88⟩⟩
noncomputable def fu89 : FE Try.prog := ⟨89, ⟨Try.f89.body.getD .skip, 8, [.tmp 4], some (rle true [2, 2, 1, 3])⟩, ⟨⟨Try.f89, Try.func89, rfl, rfl, rfl⟩, Try.call89⟩⟩
noncomputable def fu90 : FE Try.prog := ⟨90, ⟨Try.f90.body.getD .skip, 10, [.tmp 4], some (rle true [2, 2, 1, 5])⟩, ⟨⟨Try.f90, Try.func90, rfl, rfl, rfl⟩, Try.call90⟩⟩
noncomputable def fu91 : FE Try.prog := ⟨91, ⟨Try.f91.body.getD .skip, 10, [.tmp 4], some (rle true [2, 2, 1, 5])⟩, ⟨⟨Try.f91, Try.func91, rfl, rfl, rfl⟩, Try.call91⟩⟩
noncomputable def fu92 : FE Try.prog := ⟨92, ⟨Try.f92.body.getD .skip, 9, [.tmp 4], some (rle true [2, 2, 1, 4])⟩, ⟨⟨Try.f92, Try.func92, rfl, rfl, rfl⟩, Try.call92⟩⟩
noncomputable def fu93 : FE Try.prog := ⟨93, ⟨Try.f93.body.getD .skip, 9, [.tmp 4], some (rle true [2, 2, 1, 4])⟩, ⟨⟨Try.f93, Try.func93, rfl, rfl, rfl⟩, Try.call93⟩⟩
noncomputable def fu94 : FE Try.prog := ⟨94, ⟨Try.f94.body.getD .skip, 9, [.tmp 4], some (rle true [2, 2, 1, 4])⟩, ⟨⟨Try.f94, Try.func94, rfl, rfl, rfl⟩, Try.call94⟩⟩
noncomputable def fu95 : FE Try.prog := ⟨95, ⟨Try.f95.body.getD .skip, 9, [.tmp 4], some (rle true [2, 2, 1, 4])⟩, ⟨⟨Try.f95, Try.func95, rfl, rfl, rfl⟩, Try.call95⟩⟩
noncomputable def fu96 : FE Try.prog := ⟨96, ⟨Try.f96.body.getD .skip, 9, [.tmp 4], some (rle true [2, 2, 1, 4])⟩, ⟨⟨Try.f96, Try.func96, rfl, rfl, rfl⟩, Try.call96⟩⟩
noncomputable def fu97 : FE Try.prog := ⟨97, ⟨Try.f97.body.getD .skip, 9, [.tmp 4], some (rle true [2, 2, 1, 4])⟩, ⟨⟨Try.f97, Try.func97, rfl, rfl, rfl⟩, Try.call97⟩⟩
noncomputable def fu98 : FE Try.prog := ⟨98, ⟨Try.f98.body.getD .skip, 8, [.tmp 4], some (rle true [2, 2, 1, 3])⟩, ⟨⟨Try.f98, Try.func98, rfl, rfl, rfl⟩, Try.call98⟩⟩
noncomputable def fu99 : FE Try.prog := ⟨99, ⟨Try.f99.body.getD .skip, 8, [.tmp 4], some (rle true [2, 2, 1, 3])⟩, ⟨⟨Try.f99, Try.func99, rfl, rfl, rfl⟩, Try.call99⟩⟩
noncomputable def fu100 : FE Try.prog := ⟨100, ⟨Try.f100.body.getD .skip, 41, [.tmp 2, .tmp 3], some (rle true [1, 1, 4, 2, 1, 2, 1, 2, 1, 2, 1, 2, 1, 2, 1, 2, 1, 2, 1, 2, 1, 2, 1, 2, 1, 2])⟩, ⟨⟨Try.f100, Try.func100, rfl, rfl, rfl⟩, Try.call100⟩⟩
noncomputable def fu101 : FE Try.prog := ⟨101, ⟨Try.f101.body.getD .skip, 17, [], some (rle true [2, 2, 1, 12])⟩, ⟨⟨Try.f101, Try.func101, rfl, rfl, rfl⟩, Try.call101⟩⟩
noncomputable def fu102 : FE Try.prog := ⟨102, ⟨Try.f102.body.getD .skip, 60, [.tmp 4], some (rle true [2, 2, 5, 6, 1, 10, 1, 5, 1, 27])⟩, ⟨⟨Try.f102, Try.func102, rfl, rfl, rfl⟩, Try.call102⟩⟩
noncomputable def fu103 : FE Try.prog := ⟨103, ⟨Try.f103.body.getD .skip, 4, [.tmp 2], some (rle true [3, 1])⟩, ⟨⟨Try.f103, Try.func103, rfl, rfl, rfl⟩, Try.call103⟩⟩
noncomputable def fu104 : FE Try.prog := ⟨104, ⟨Try.f104.body.getD .skip, 275, [.tmp 4, .tmp 5], some (rle true [2, 2, 13, 23, 1, 3, 1, 25, 1, 21, 1, 13, 1, 5, 1, 37, 1, 8, 1, 6, 1, 11, 1, 16, 1, 28, 1, 21, 1, 2, 1, 10, 1, 14])⟩, ⟨⟨Try.f104, Try.func104, rfl, rfl, rfl⟩, Try.call104⟩⟩
noncomputable def fu105 : FE Try.prog := ⟨105, ⟨Try.f105.body.getD .skip, 16, [], some (rle true [2, 1, 1, 1, 1, 9, 1])⟩, ⟨⟨Try.f105, Try.func105, rfl, rfl, rfl⟩, Try.call105⟩⟩
noncomputable def fu106 : FE Try.prog := ⟨106, ⟨Try.f106.body.getD .skip, 33, [.tmp 6], some (rle true [3, 3, 2, 8, 1, 16])⟩, ⟨⟨Try.f106, Try.func106, rfl, rfl, rfl⟩, Try.call106⟩⟩
noncomputable def fu107 : FE Try.prog := ⟨107, ⟨Try.f107.body.getD .skip, 24, [], some (rle true [5, 4, 3, 11, 1])⟩, ⟨⟨Try.f107, Try.func107, rfl, rfl, rfl⟩, Try.call107⟩⟩
noncomputable def fu108 : FE Try.prog := ⟨108, ⟨Try.f108.body.getD .skip, 4, [.tmp 2], some (rle true [3, 1])⟩, ⟨⟨Try.f108, Try.func108, rfl, rfl, rfl⟩, Try.call108⟩⟩
noncomputable def fu109 : FE Try.prog := ⟨109, ⟨Try.f109.body.getD .skip, 7, [.tmp 2], some (rle true [1, 1, 2, 3])⟩, ⟨⟨Try.f109, Try.func109, rfl, rfl, rfl⟩, Try.call109⟩⟩
noncomputable def fu110 : FE Try.prog := ⟨110, ⟨Try.f110.body.getD .skip, 19, [], some (rle true [2, 1, 1, 4, 1, 9, 1])⟩, ⟨⟨Try.f110, Try.func110, rfl, rfl, rfl⟩, Try.call110⟩⟩
noncomputable def eqs : List (QE Try.prog) := []
noncomputable def env : Env := { P := Try.prog, mixed := by kernel_rfl, types := (.node 72 (.node 36 (.node 18 (.node 9 (.node 4 (.node 2 (.node 1 (.leaf ty0) (.leaf ty1)) (.node 3 (.leaf ty2) (.leaf ty3))) (.node 6 (.node 5 (.leaf ty4) (.leaf ty5)) (.node 7 (.leaf ty6) (.node 8 (.leaf ty7) (.leaf ty8))))) (.node 13 (.node 11 (.node 10 (.leaf ty9) (.leaf ty10)) (.node 12 (.leaf ty11) (.leaf ty12))) (.node 15 (.node 14 (.leaf ty13) (.leaf ty14)) (.node 16 (.leaf ty15) (.node 17 (.leaf ty16) (.leaf ty17)))))) (.node 27 (.node 22 (.node 20 (.node 19 (.leaf ty18) (.leaf ty19)) (.node 21 (.leaf ty20) (.leaf ty21))) (.node 24 (.node 23 (.leaf ty22) (.leaf ty23)) (.node 25 (.leaf ty24) (.node 26 (.leaf ty25) (.leaf ty26))))) (.node 31 (.node 29 (.node 28 (.leaf ty27) (.leaf ty28)) (.node 30 (.leaf ty29) (.leaf ty30))) (.node 33 (.node 32 (.leaf ty31) (.leaf ty32)) (.node 34 (.leaf ty33) (.node 35 (.leaf ty34) (.leaf ty35))))))) (.node 54 (.node 45 (.node 40 (.node 38 (.node 37 (.leaf ty36) (.leaf ty37)) (.node 39 (.leaf ty38) (.leaf ty39))) (.node 42 (.node 41 (.leaf ty40) (.leaf ty41)) (.node 43 (.leaf ty42) (.node 44 (.leaf ty43) (.leaf ty44))))) (.node 49 (.node 47 (.node 46 (.leaf ty45) (.leaf ty46)) (.node 48 (.leaf ty47) (.leaf ty48))) (.node 51 (.node 50 (.leaf ty49) (.leaf ty50)) (.node 52 (.leaf ty51) (.node 53 (.leaf ty52) (.leaf ty53)))))) (.node 63 (.node 58 (.node 56 (.node 55 (.leaf ty54) (.leaf ty55)) (.node 57 (.leaf ty56) (.leaf ty57))) (.node 60 (.node 59 (.leaf ty58) (.leaf ty59)) (.node 61 (.leaf ty60) (.node 62 (.leaf ty61) (.leaf ty62))))) (.node 67 (.node 65 (.node 64 (.leaf ty63) (.leaf ty64)) (.node 66 (.leaf ty65) (.leaf ty66))) (.node 69 (.node 68 (.leaf ty67) (.leaf ty68)) (.node 70 (.leaf ty69) (.node 71 (.leaf ty70) (.leaf ty71)))))))) (.node 108 (.node 90 (.node 81 (.node 76 (.node 74 (.node 73 (.leaf ty72) (.leaf ty73)) (.node 75 (.leaf ty74) (.leaf ty75))) (.node 78 (.node 77 (.leaf ty76) (.leaf ty77)) (.node 79 (.leaf ty78) (.node 80 (.leaf ty79) (.leaf ty80))))) (.node 85 (.node 83 (.node 82 (.leaf ty81) (.leaf ty82)) (.node 84 (.leaf ty83) (.leaf ty84))) (.node 87 (.node 86 (.leaf ty85) (.leaf ty86)) (.node 88 (.leaf ty87) (.node 89 (.leaf ty88) (.leaf ty89)))))) (.node 99 (.node 94 (.node 92 (.node 91 (.leaf ty90) (.leaf ty91)) (.node 93 (.leaf ty92) (.leaf ty93))) (.node 96 (.node 95 (.leaf ty94) (.leaf ty95)) (.node 97 (.leaf ty96) (.node 98 (.leaf ty97) (.leaf ty98))))) (.node 103 (.node 101 (.node 100 (.leaf ty99) (.leaf ty100)) (.node 102 (.leaf ty101) (.leaf ty102))) (.node 105 (.node 104 (.leaf ty103) (.leaf ty104)) (.node 106 (.leaf ty105) (.node 107 (.leaf ty106) (.leaf ty107))))))) (.node 126 (.node 117 (.node 112 (.node 110 (.node 109 (.leaf ty108) (.leaf ty109)) (.node 111 (.leaf ty110) (.leaf ty111))) (.node 114 (.node 113 (.leaf ty112) (.leaf ty113)) (.node 115 (.leaf ty114) (.node 116 (.leaf ty115) (.leaf ty116))))) (.node 121 (.node 119 (.node 118 (.leaf ty117) (.leaf ty118)) (.node 120 (.leaf ty119) (.leaf ty120))) (.node 123 (.node 122 (.leaf ty121) (.leaf ty122)) (.node 124 (.leaf ty123) (.node 125 (.leaf ty124) (.leaf ty125)))))) (.node 135 (.node 130 (.node 128 (.node 127 (.leaf ty126) (.leaf ty127)) (.node 129 (.leaf ty128) (.leaf ty129))) (.node 132 (.node 131 (.leaf ty130) (.leaf ty131)) (.node 133 (.leaf ty132) (.node 134 (.leaf ty133) (.leaf ty134))))) (.node 139 (.node 137 (.node 136 (.leaf ty135) (.leaf ty136)) (.node 138 (.leaf ty137) (.leaf ty138))) (.node 141 (.node 140 (.leaf ty139) (.leaf ty140)) (.node 142 (.leaf ty141) (.node 143 (.leaf ty142) (.leaf ty143))))))))), funcs := (.node 56 (.node 29 (.node 15 (.node 8 (.node 5 (.node 3 (.leaf fu2) (.node 4 (.leaf fu3) (.leaf fu4))) (.node 6 (.leaf fu5) (.node 7 (.leaf fu6) (.leaf fu7)))) (.node 11 (.node 9 (.leaf fu8) (.node 10 (.leaf fu9) (.leaf fu10))) (.node 13 (.node 12 (.leaf fu11) (.leaf fu12)) (.node 14 (.leaf fu13) (.leaf fu14))))) (.node 22 (.node 18 (.node 16 (.leaf fu15) (.node 17 (.leaf fu16) (.leaf fu17))) (.node 20 (.node 19 (.leaf fu18) (.leaf fu19)) (.node 21 (.leaf fu20) (.leaf fu21)))) (.node 25 (.node 23 (.leaf fu22) (.node 24 (.leaf fu23) (.leaf fu24))) (.node 27 (.node 26 (.leaf fu25) (.leaf fu26)) (.node 28 (.leaf fu27) (.leaf fu28)))))) (.node 42 (.node 35 (.node 32 (.node 30 (.leaf fu29) (.node 31 (.leaf fu30) (.leaf fu31))) (.node 33 (.leaf fu32) (.node 34 (.leaf fu33) (.leaf fu34)))) (.node 38 (.node 36 (.leaf fu35) (.node 37 (.leaf fu36) (.leaf fu37))) (.node 40 (.node 39 (.leaf fu38) (.leaf fu39)) (.node 41 (.leaf fu40) (.leaf fu41))))) (.node 49 (.node 45 (.node 43 (.leaf fu42) (.node 44 (.leaf fu43) (.leaf fu44))) (.node 47 (.node 46 (.leaf fu45) (.leaf fu46)) (.node 48 (.leaf fu47) (.leaf fu48)))) (.node 52 (.node 50 (.leaf fu49) (.node 51 (.leaf fu50) (.leaf fu51))) (.node 54 (.node 53 (.leaf fu52) (.leaf fu53)) (.node 55 (.leaf fu54) (.leaf fu55))))))) (.node 83 (.node 69 (.node 62 (.node 59 (.node 57 (.leaf fu56) (.node 58 (.leaf fu57) (.leaf fu58))) (.node 60 (.leaf fu59) (.node 61 (.leaf fu60) (.leaf fu61)))) (.node 65 (.node 63 (.leaf fu62) (.node 64 (.leaf fu63) (.leaf fu64))) (.node 67 (.node 66 (.leaf fu65) (.leaf fu66)) (.node 68 (.leaf fu67) (.leaf fu68))))) (.node 76 (.node 72 (.node 70 (.leaf fu69) (.node 71 (.leaf fu70) (.leaf fu71))) (.node 74 (.node 73 (.leaf fu72) (.leaf fu73)) (.node 75 (.leaf fu74) (.leaf fu75)))) (.node 79 (.node 77 (.leaf fu76) (.node 78 (.leaf fu77) (.leaf fu78))) (.node 81 (.node 80 (.leaf fu79) (.leaf fu80)) (.node 82 (.leaf fu81) (.leaf fu82)))))) (.node 97 (.node 90 (.node 86 (.node 84 (.leaf fu83) (.node 85 (.leaf fu84) (.leaf fu85))) (.node 88 (.node 87 (.leaf fu86) (.leaf fu87)) (.node 89 (.leaf fu88) (.leaf fu89)))) (.node 93 (.node 91 (.leaf fu90) (.node 92 (.leaf fu91) (.leaf fu92))) (.node 95 (.node 94 (.leaf fu93) (.leaf fu94)) (.node 96 (.leaf fu95) (.leaf fu96))))) (.node 104 (.node 100 (.node 98 (.leaf fu97) (.node 99 (.leaf fu98) (.leaf fu99))) (.node 102 (.node 101 (.leaf fu100) (.leaf fu101)) (.node 103 (.leaf fu102) (.leaf fu103)))) (.node 107 (.node 105 (.leaf fu104) (.node 106 (.leaf fu105) (.leaf fu106))) (.node 109 (.node 108 (.leaf fu107) (.leaf fu108)) (.node 110 (.leaf fu109) (.leaf fu110)))))))), hooks := [], eqs := eqs }
theorem HK (f : Nat) (h : (env.hooks.all fun x => !(x.f.beq f)) = true) : ∀ args : List AVal, callF env (evalW env) f args = callI env (evalW env) f args := fun _ => hk_gen f h
theorem NB (f : Nat) (h : (env.bhooks.all fun x => !(x.fn.beq f)) = true) : ∀ k, noHook env.bhooks f k = true := nb_gen f h
abbrev FI (k : Nat) (f : FE Try.prog) : Prop := (env.funcs.find k).i = f.i
abbrev FF (k : Nat) : Prop := (env.funcs.find k).f.beq k = true
theorem ti0 : ti env 0 = M.pure ⟨Go.TypeDesc.tuple #[], 1, 0, .tup []⟩ := rfl
theorem ti1 : ti env 1 = M.pure ⟨Go.TypeDesc.func #[] #[] false, 1, 8, .nilf⟩ := rfl
theorem ti2 : ti env 2 = M.pure ⟨Go.TypeDesc.int (Go.IntKind.i64), 1, 8, .int .i64 (0)⟩ := rfl
theorem ti3 : ti env 3 = M.pure ⟨Go.TypeDesc.int (Go.IntKind.i64), 1, 8, .int .i64 (0)⟩ := rfl
theorem ti4 : ti env 4 = M.pure ⟨Go.TypeDesc.bool, 1, 1, .bool false⟩ := rfl
theorem ti5 : ti env 5 = M.pure ⟨Go.TypeDesc.int (Go.IntKind.u8), 1, 1, .int .u8 (0)⟩ := rfl
theorem ti6 : ti env 6 = M.pure ⟨Go.TypeDesc.int (Go.IntKind.u8), 1, 1, .int .u8 (0)⟩ := rfl
theorem ti7 : ti env 7 = M.pure ⟨Go.TypeDesc.struct #[⟨"x", 2, 0, false, "", "runtime", 0⟩, ⟨"y", 3, 1, false, "", "runtime", 8⟩, ⟨"signed", 4, 2, false, "", "runtime", 16⟩, ⟨"code", 6, 3, false, "", "runtime", 17⟩], 4, 24, .agg [.int .i64 (0), .int .i64 (0), .bool false, .int .u8 (0)]⟩ := rfl
theorem ti8 : ti env 8 = M.pure ⟨Go.TypeDesc.struct #[⟨"x", 2, 0, false, "", "runtime", 0⟩, ⟨"y", 3, 1, false, "", "runtime", 8⟩, ⟨"signed", 4, 2, false, "", "runtime", 16⟩, ⟨"code", 6, 3, false, "", "runtime", 17⟩], 4, 24, .agg [.int .i64 (0), .int .i64 (0), .bool false, .int .u8 (0)]⟩ := rfl
theorem ti9 : ti env 9 = M.pure ⟨Go.TypeDesc.string, 1, 16, .str []⟩ := rfl
theorem ti10 : ti env 10 = M.pure ⟨Go.TypeDesc.string, 1, 16, .str []⟩ := rfl
theorem ti11 : ti env 11 = M.pure ⟨Go.TypeDesc.string, 1, 16, .str []⟩ := rfl
theorem ti12 : ti env 12 = M.pure ⟨Go.TypeDesc.int (Go.IntKind.u64), 1, 8, .int .u64 (0)⟩ := rfl
theorem ti13 : ti env 13 = M.pure ⟨Go.TypeDesc.struct #[⟨"msg", 9, 0, false, "", "runtime", 0⟩, ⟨"addr", 12, 1, false, "", "runtime", 16⟩], 2, 24, .agg [.str [], .int .u64 (0)]⟩ := rfl
theorem ti14 : ti env 14 = M.pure ⟨Go.TypeDesc.struct #[⟨"msg", 9, 0, false, "", "runtime", 0⟩, ⟨"addr", 12, 1, false, "", "runtime", 16⟩], 2, 24, .agg [.str [], .int .u64 (0)]⟩ := rfl
theorem ti15 : ti env 15 = M.pure ⟨Go.TypeDesc.pointer 130, 1, 8, .nilp⟩ := rfl
theorem ti16 : ti env 16 = M.pure ⟨Go.TypeDesc.pointer 133, 1, 8, .nilp⟩ := rfl
theorem ti17 : ti env 17 = M.pure ⟨Go.TypeDesc.pointer 142, 1, 8, .nilp⟩ := rfl
theorem ti18 : ti env 18 = M.pure ⟨Go.TypeDesc.struct #[⟨"typ", 17, 0, false, "", "internal/runtime/maps", 0⟩], 1, 8, .agg [.nilp]⟩ := rfl
theorem ti19 : ti env 19 = M.pure ⟨Go.TypeDesc.struct #[⟨"typ", 17, 0, false, "", "internal/runtime/maps", 0⟩], 1, 8, .agg [.nilp]⟩ := rfl
theorem ti20 : ti env 20 = M.pure ⟨Go.TypeDesc.interface #[], 1, 16, .nili⟩ := rfl
theorem ti21 : ti env 21 = M.pure ⟨Go.TypeDesc.int (Go.IntKind.i32), 1, 4, .int .i32 (0)⟩ := rfl
theorem ti22 : ti env 22 = M.pure ⟨Go.TypeDesc.slice 5, 1, 24, .nils⟩ := rfl
theorem ti23 : ti env 23 = M.pure ⟨Go.TypeDesc.func #[] #[4] false, 1, 8, .nilf⟩ := rfl
theorem ti24 : ti env 24 = M.pure ⟨Go.TypeDesc.int (Go.IntKind.i64), 1, 8, .int .i64 (0)⟩ := rfl
theorem ti25 : ti env 25 = M.pure ⟨Go.TypeDesc.tuple #[22, 24], 1, 0, .tup [.nils, .int .i64 (0)]⟩ := rfl
theorem ti26 : ti env 26 = M.pure ⟨Go.TypeDesc.func #[2] #[22, 24] false, 1, 8, .nilf⟩ := rfl
theorem ti27 : ti env 27 = M.pure ⟨Go.TypeDesc.tuple #[2, 24], 1, 0, .tup [.int .i64 (0), .int .i64 (0)]⟩ := rfl
theorem ti28 : ti env 28 = M.pure ⟨Go.TypeDesc.func #[22] #[2, 24] false, 1, 8, .nilf⟩ := rfl
theorem ti29 : ti env 29 = M.pure ⟨Go.TypeDesc.func #[22] #[4] false, 1, 8, .nilf⟩ := rfl
theorem ti30 : ti env 30 = M.pure ⟨Go.TypeDesc.func #[2, 22] #[4] false, 1, 8, .nilf⟩ := rfl
theorem ti31 : ti env 31 = M.pure ⟨Go.TypeDesc.tuple #[22, 3], 1, 0, .tup [.nils, .int .i64 (0)]⟩ := rfl
theorem ti32 : ti env 32 = M.pure ⟨Go.TypeDesc.func #[2] #[22, 3] false, 1, 8, .nilf⟩ := rfl
theorem ti33 : ti env 33 = M.pure ⟨Go.TypeDesc.tuple #[2, 3], 1, 0, .tup [.int .i64 (0), .int .i64 (0)]⟩ := rfl
theorem ti34 : ti env 34 = M.pure ⟨Go.TypeDesc.func #[22] #[2, 3] false, 1, 8, .nilf⟩ := rfl
theorem ti35 : ti env 35 = M.pure ⟨Go.TypeDesc.func #[4] #[22] false, 1, 8, .nilf⟩ := rfl
theorem ti36 : ti env 36 = M.pure ⟨Go.TypeDesc.func #[2, 22, 4] #[4] false, 1, 8, .nilf⟩ := rfl
theorem ti37 : ti env 37 = M.pure ⟨Go.TypeDesc.func #[5, 2] #[2, 24] false, 1, 8, .nilf⟩ := rfl
theorem ti38 : ti env 38 = M.pure ⟨Go.TypeDesc.func #[5, 2] #[2, 3] false, 1, 8, .nilf⟩ := rfl
theorem ti39 : ti env 39 = M.pure ⟨Go.TypeDesc.func #[5, 2, 2] #[2, 24] false, 1, 8, .nilf⟩ := rfl
theorem ti40 : ti env 40 = M.pure ⟨Go.TypeDesc.func #[5, 2, 2] #[2, 3] false, 1, 8, .nilf⟩ := rfl
theorem ti41 : ti env 41 = M.pure ⟨Go.TypeDesc.func #[2, 2, 2] #[4] false, 1, 8, .nilf⟩ := rfl
theorem ti42 : ti env 42 = M.pure ⟨Go.TypeDesc.func #[5] #[3] false, 1, 8, .nilf⟩ := rfl
theorem ti43 : ti env 43 = M.pure ⟨Go.TypeDesc.func #[5, 2, 2, 2] #[4] false, 1, 8, .nilf⟩ := rfl
theorem ti44 : ti env 44 = M.pure ⟨Go.TypeDesc.array 8 2, 8, 64, .agg [.int .i64 (0), .int .i64 (0), .int .i64 (0), .int .i64 (0), .int .i64 (0), .int .i64 (0), .int .i64 (0), .int .i64 (0)]⟩ := rfl
theorem ti45 : ti env 45 = M.pure ⟨Go.TypeDesc.func #[2, 2] #[4] false, 1, 8, .nilf⟩ := rfl
theorem ti46 : ti env 46 = M.pure ⟨Go.TypeDesc.func #[5, 2, 2] #[4] false, 1, 8, .nilf⟩ := rfl
theorem ti47 : ti env 47 = M.pure ⟨Go.TypeDesc.func #[9, 4] #[4] false, 1, 8, .nilf⟩ := rfl
theorem ti48 : ti env 48 = M.pure ⟨Go.TypeDesc.func #[2, 9] #[4] false, 1, 8, .nilf⟩ := rfl
theorem ti49 : ti env 49 = M.pure ⟨Go.TypeDesc.struct #[⟨"code", 5, 0, false, "", "purser/purserlaw11", 0⟩, ⟨"a", 2, 1, false, "", "purser/purserlaw11", 8⟩, ⟨"want", 2, 2, false, "", "purser/purserlaw11", 16⟩], 3, 24, .agg [.int .u8 (0), .int .i64 (0), .int .i64 (0)]⟩ := rfl
theorem ti50 : ti env 50 = M.pure ⟨Go.TypeDesc.slice 49, 1, 24, .nils⟩ := rfl
theorem ti51 : ti env 51 = M.pure ⟨Go.TypeDesc.struct #[⟨"code", 5, 0, false, "", "purser/purserlaw11", 0⟩, ⟨"a", 2, 1, false, "", "purser/purserlaw11", 8⟩, ⟨"b", 2, 2, false, "", "purser/purserlaw11", 16⟩, ⟨"want", 2, 3, false, "", "purser/purserlaw11", 24⟩], 4, 32, .agg [.int .u8 (0), .int .i64 (0), .int .i64 (0), .int .i64 (0)]⟩ := rfl
theorem ti52 : ti env 52 = M.pure ⟨Go.TypeDesc.slice 51, 1, 24, .nils⟩ := rfl
theorem ti53 : ti env 53 = M.pure ⟨Go.TypeDesc.slice 22, 1, 24, .nils⟩ := rfl
theorem ti54 : ti env 54 = M.pure ⟨Go.TypeDesc.func #[53, 70] #[4] false, 1, 8, .nilf⟩ := rfl
theorem ti55 : ti env 55 = M.pure ⟨Go.TypeDesc.pointer 95, 1, 8, .nilp⟩ := rfl
theorem ti56 : ti env 56 = M.pure ⟨Go.TypeDesc.tuple #[55, 24], 1, 0, .tup [.nilp, .int .i64 (0)]⟩ := rfl
theorem ti57 : ti env 57 = M.pure ⟨Go.TypeDesc.func #[53] #[55, 24] true, 1, 8, .nilf⟩ := rfl
theorem ti58 : ti env 58 = M.pure ⟨Go.TypeDesc.func #[5] #[24] false, 1, 8, .nilf⟩ := rfl
theorem ti59 : ti env 59 = M.pure ⟨Go.TypeDesc.func #[53, 53] #[4] false, 1, 8, .nilf⟩ := rfl
theorem ti60 : ti env 60 = M.pure ⟨Go.TypeDesc.func #[] #[53] false, 1, 8, .nilf⟩ := rfl
theorem ti61 : ti env 61 = M.pure ⟨Go.TypeDesc.func #[53, 5] #[4] false, 1, 8, .nilf⟩ := rfl
theorem ti62 : ti env 62 = M.pure ⟨Go.TypeDesc.map 5 3, 1, 8, .nilm⟩ := rfl
theorem ti63 : ti env 63 = M.pure ⟨Go.TypeDesc.func #[] #[3] false, 1, 8, .nilf⟩ := rfl
theorem ti64 : ti env 64 = M.pure ⟨Go.TypeDesc.func #[3] #[22, 24] false, 1, 8, .nilf⟩ := rfl
theorem ti65 : ti env 65 = M.pure ⟨Go.TypeDesc.func #[5] #[4] false, 1, 8, .nilf⟩ := rfl
theorem ti66 : ti env 66 = M.pure ⟨Go.TypeDesc.func #[53, 22] #[4] false, 1, 8, .nilf⟩ := rfl
theorem ti67 : ti env 67 = M.pure ⟨Go.TypeDesc.func #[22] #[24] false, 1, 8, .nilf⟩ := rfl
theorem ti68 : ti env 68 = M.pure ⟨Go.TypeDesc.func #[53, 2] #[4] false, 1, 8, .nilf⟩ := rfl
theorem ti69 : ti env 69 = M.pure ⟨Go.TypeDesc.func #[] #[22, 24] false, 1, 8, .nilf⟩ := rfl
theorem ti70 : ti env 70 = M.pure ⟨Go.TypeDesc.slice 76, 1, 24, .nils⟩ := rfl
theorem ti71 : ti env 71 = M.pure ⟨Go.TypeDesc.pointer 78, 1, 8, .nilp⟩ := rfl
theorem ti72 : ti env 72 = M.pure ⟨Go.TypeDesc.tuple #[71, 3], 1, 0, .tup [.nilp, .int .i64 (0)]⟩ := rfl
theorem ti73 : ti env 73 = M.pure ⟨Go.TypeDesc.func #[53] #[71, 3] false, 1, 8, .nilf⟩ := rfl
theorem ti74 : ti env 74 = M.pure ⟨Go.TypeDesc.func #[55, 71, 76] #[4] false, 1, 8, .nilf⟩ := rfl
theorem ti75 : ti env 75 = M.pure ⟨Go.TypeDesc.struct #[⟨"Kind", 3, 0, false, "", "", 0⟩, ⟨"Code", 5, 1, false, "", "", 8⟩, ⟨"B", 22, 2, false, "", "", 16⟩, ⟨"N", 3, 3, false, "", "", 40⟩], 4, 48, .agg [.int .i64 (0), .int .u8 (0), .nils, .int .i64 (0)]⟩ := rfl
theorem ti76 : ti env 76 = M.pure ⟨Go.TypeDesc.struct #[⟨"Kind", 3, 0, false, "", "", 0⟩, ⟨"Code", 5, 1, false, "", "", 8⟩, ⟨"B", 22, 2, false, "", "", 16⟩, ⟨"N", 3, 3, false, "", "", 40⟩], 4, 48, .agg [.int .i64 (0), .int .u8 (0), .nils, .int .i64 (0)]⟩ := rfl
theorem ti77 : ti env 77 = M.pure ⟨Go.TypeDesc.struct #[⟨"L", 53, 0, false, "", "", 0⟩, ⟨"O", 53, 1, false, "", "", 24⟩], 2, 48, .agg [.nils, .nils]⟩ := rfl
theorem ti78 : ti env 78 = M.pure ⟨Go.TypeDesc.struct #[⟨"L", 53, 0, false, "", "", 0⟩, ⟨"O", 53, 1, false, "", "", 24⟩], 2, 48, .agg [.nils, .nils]⟩ := rfl
theorem ti79 : ti env 79 = M.pure ⟨Go.TypeDesc.func #[9, 9, 22] #[4] true, 1, 8, .nilf⟩ := rfl
theorem ti80 : ti env 80 = M.pure ⟨Go.TypeDesc.func #[9] #[55] false, 1, 8, .nilf⟩ := rfl
theorem ti81 : ti env 81 = M.pure ⟨Go.TypeDesc.func #[55] #[9] false, 1, 8, .nilf⟩ := rfl
theorem ti82 : ti env 82 = M.pure ⟨Go.TypeDesc.func #[] #[2, 24] false, 1, 8, .nilf⟩ := rfl
theorem ti83 : ti env 83 = M.pure ⟨Go.TypeDesc.func #[2] #[22] false, 1, 8, .nilf⟩ := rfl
theorem ti84 : ti env 84 = M.pure ⟨Go.TypeDesc.func #[22, 22] #[4] false, 1, 8, .nilf⟩ := rfl
theorem ti85 : ti env 85 = M.pure ⟨Go.TypeDesc.func #[4] #[2] false, 1, 8, .nilf⟩ := rfl
theorem ti86 : ti env 86 = M.pure ⟨Go.TypeDesc.func #[89] #[2] false, 1, 8, .nilf⟩ := rfl
theorem ti87 : ti env 87 = M.pure ⟨Go.TypeDesc.func #[5] #[86] false, 1, 8, .nilf⟩ := rfl
theorem ti88 : ti env 88 = M.pure ⟨Go.TypeDesc.func #[2] #[4] false, 1, 8, .nilf⟩ := rfl
theorem ti89 : ti env 89 = M.pure ⟨Go.TypeDesc.int (Go.IntKind.i64), 1, 8, .int .i64 (0)⟩ := rfl
theorem ti90 : ti env 90 = M.pure ⟨Go.TypeDesc.func #[89, 89] #[2] false, 1, 8, .nilf⟩ := rfl
theorem ti91 : ti env 91 = M.pure ⟨Go.TypeDesc.func #[5] #[90] false, 1, 8, .nilf⟩ := rfl
theorem ti92 : ti env 92 = M.pure ⟨Go.TypeDesc.struct #[⟨"l", 53, 0, false, "", "purser/stack", 0⟩], 1, 24, .agg [.nils]⟩ := rfl
theorem ti93 : ti env 93 = M.pure ⟨Go.TypeDesc.struct #[⟨"l", 53, 0, false, "", "purser/stack", 0⟩], 1, 24, .agg [.nils]⟩ := rfl
theorem ti94 : ti env 94 = M.pure ⟨Go.TypeDesc.struct #[⟨"pile", 93, 0, true, "", "purser/stack", 0⟩, ⟨"other", 93, 1, false, "", "purser/stack", 24⟩], 2, 48, .agg [.nils, .nils]⟩ := rfl
theorem ti95 : ti env 95 = M.pure ⟨Go.TypeDesc.struct #[⟨"pile", 93, 0, true, "", "purser/stack", 0⟩, ⟨"other", 93, 1, false, "", "purser/stack", 24⟩], 2, 48, .agg [.nils, .nils]⟩ := rfl
theorem ti96 : ti env 96 = M.pure ⟨Go.TypeDesc.func #[53] #[] true, 1, 8, .nilf⟩ := rfl
theorem ti97 : ti env 97 = M.pure ⟨Go.TypeDesc.func #[22] #[22] false, 1, 8, .nilf⟩ := rfl
theorem ti98 : ti env 98 = M.pure ⟨Go.TypeDesc.func #[53] #[53] false, 1, 8, .nilf⟩ := rfl
theorem ti99 : ti env 99 = M.pure ⟨Go.TypeDesc.func #[3] #[22] false, 1, 8, .nilf⟩ := rfl
theorem ti100 : ti env 100 = M.pure ⟨Go.TypeDesc.func #[3] #[53] false, 1, 8, .nilf⟩ := rfl
theorem ti101 : ti env 101 = M.pure ⟨Go.TypeDesc.func #[22] #[3] false, 1, 8, .nilf⟩ := rfl
theorem ti102 : ti env 102 = M.pure ⟨Go.TypeDesc.func #[] #[22, 3] false, 1, 8, .nilf⟩ := rfl
theorem ti103 : ti env 103 = M.pure ⟨Go.TypeDesc.func #[3] #[22, 3] false, 1, 8, .nilf⟩ := rfl
theorem ti104 : ti env 104 = M.pure ⟨Go.TypeDesc.func #[] #[2, 3] false, 1, 8, .nilf⟩ := rfl
theorem ti105 : ti env 105 = M.pure ⟨Go.TypeDesc.tuple #[9, 9], 1, 0, .tup [.str [], .str []]⟩ := rfl
theorem ti106 : ti env 106 = M.pure ⟨Go.TypeDesc.func #[5] #[9, 9] false, 1, 8, .nilf⟩ := rfl
theorem ti107 : ti env 107 = M.pure ⟨Go.TypeDesc.func #[123] #[] false, 1, 8, .nilf⟩ := rfl
theorem ti108 : ti env 108 = M.pure ⟨Go.TypeDesc.func #[123] #[] false, 1, 8, .nilf⟩ := rfl
theorem ti109 : ti env 109 = M.pure ⟨Go.TypeDesc.func #[110] #[108] false, 1, 8, .nilf⟩ := rfl
theorem ti110 : ti env 110 = M.pure ⟨Go.TypeDesc.int (Go.IntKind.u64), 1, 8, .int .u64 (0)⟩ := rfl
theorem ti111 : ti env 111 = M.pure ⟨Go.TypeDesc.func #[2] #[110] false, 1, 8, .nilf⟩ := rfl
theorem ti112 : ti env 112 = M.pure ⟨Go.TypeDesc.func #[] #[2] false, 1, 8, .nilf⟩ := rfl
theorem ti113 : ti env 113 = M.pure ⟨Go.TypeDesc.pointer 93, 1, 8, .nilp⟩ := rfl
theorem ti114 : ti env 114 = M.pure ⟨Go.TypeDesc.slice 3, 1, 24, .nils⟩ := rfl
theorem ti115 : ti env 115 = M.pure ⟨Go.TypeDesc.tuple #[114, 4], 1, 0, .tup [.nils, .bool false]⟩ := rfl
theorem ti116 : ti env 116 = M.pure ⟨Go.TypeDesc.func #[5] #[114, 4] false, 1, 8, .nilf⟩ := rfl
theorem ti117 : ti env 117 = M.pure ⟨Go.TypeDesc.func #[3] #[] false, 1, 8, .nilf⟩ := rfl
theorem ti118 : ti env 118 = M.pure ⟨Go.TypeDesc.func #[4] #[24] false, 1, 8, .nilf⟩ := rfl
theorem ti119 : ti env 119 = M.pure ⟨Go.TypeDesc.func #[126] #[] false, 1, 8, .nilf⟩ := rfl
theorem ti120 : ti env 120 = M.pure ⟨Go.TypeDesc.func #[126] #[] false, 1, 8, .nilf⟩ := rfl
theorem ti121 : ti env 121 = M.pure ⟨Go.TypeDesc.func #[] #[120] false, 1, 8, .nilf⟩ := rfl
theorem ti122 : ti env 122 = M.pure ⟨Go.TypeDesc.func #[5] #[71, 3] false, 1, 8, .nilf⟩ := rfl
theorem ti123 : ti env 123 = M.pure ⟨Go.TypeDesc.func #[5, 4] #[4] false, 1, 8, .nilf⟩ := rfl
theorem ti124 : ti env 124 = M.pure ⟨Go.TypeDesc.int (Go.IntKind.u64), 1, 8, .int .u64 (0)⟩ := rfl
theorem ti125 : ti env 125 = M.pure ⟨Go.TypeDesc.func #[53, 3, 3] #[53] false, 1, 8, .nilf⟩ := rfl
theorem ti126 : ti env 126 = M.pure ⟨Go.TypeDesc.func #[3, 22] #[4] false, 1, 8, .nilf⟩ := rfl
theorem ti127 : ti env 127 = M.pure ⟨Go.TypeDesc.func #[53] #[120] false, 1, 8, .nilf⟩ := rfl
theorem ti128 : ti env 128 = M.pure ⟨Go.TypeDesc.func #[] #[9] false, 1, 8, .nilf⟩ := rfl
theorem ti129 : ti env 129 = M.pure ⟨Go.TypeDesc.struct #[⟨"_interface", 17, 0, false, "", "runtime", 0⟩, ⟨"concrete", 17, 1, false, "", "runtime", 8⟩, ⟨"asserted", 17, 2, false, "", "runtime", 16⟩, ⟨"missingMethod", 9, 3, false, "", "runtime", 24⟩], 4, 40, .agg [.nilp, .nilp, .nilp, .str []]⟩ := rfl
theorem ti130 : ti env 130 = M.pure ⟨Go.TypeDesc.struct #[⟨"_interface", 17, 0, false, "", "runtime", 0⟩, ⟨"concrete", 17, 1, false, "", "runtime", 8⟩, ⟨"asserted", 17, 2, false, "", "runtime", 16⟩, ⟨"missingMethod", 9, 3, false, "", "runtime", 24⟩], 4, 40, .agg [.nilp, .nilp, .nilp, .str []]⟩ := rfl
theorem ti131 : ti env 131 = M.pure ⟨Go.TypeDesc.array 0 16, 0, 0, .agg []⟩ := rfl
theorem ti132 : ti env 132 = M.pure ⟨Go.TypeDesc.struct #[⟨"_", 131, 0, false, "", "runtime", 0⟩], 0, 0, .agg []⟩ := rfl
theorem ti133 : ti env 133 = M.pure ⟨Go.TypeDesc.struct #[⟨"_", 131, 0, false, "", "runtime", 0⟩], 0, 0, .agg []⟩ := rfl
theorem ti134 : ti env 134 = M.pure ⟨Go.TypeDesc.int (Go.IntKind.u32), 1, 4, .int .u32 (0)⟩ := rfl
theorem ti135 : ti env 135 = M.pure ⟨Go.TypeDesc.int (Go.IntKind.u8), 1, 1, .int .u8 (0)⟩ := rfl
theorem ti136 : ti env 136 = M.pure ⟨Go.TypeDesc.int (Go.IntKind.u8), 1, 1, .int .u8 (0)⟩ := rfl
theorem ti137 : ti env 137 = M.pure ⟨Go.TypeDesc.func #[143, 143] #[4] false, 1, 8, .nilf⟩ := rfl
theorem ti138 : ti env 138 = M.pure ⟨Go.TypeDesc.pointer 5, 1, 8, .nilp⟩ := rfl
theorem ti139 : ti env 139 = M.pure ⟨Go.TypeDesc.int (Go.IntKind.i32), 1, 4, .int .i32 (0)⟩ := rfl
theorem ti140 : ti env 140 = M.pure ⟨Go.TypeDesc.int (Go.IntKind.i32), 1, 4, .int .i32 (0)⟩ := rfl
theorem ti141 : ti env 141 = M.pure ⟨Go.TypeDesc.struct #[⟨"Size_", 12, 0, false, "", "", 0⟩, ⟨"PtrBytes", 12, 1, false, "", "", 8⟩, ⟨"Hash", 134, 2, false, "", "", 16⟩, ⟨"TFlag", 135, 3, false, "", "", 20⟩, ⟨"Align_", 5, 4, false, "", "", 21⟩, ⟨"FieldAlign_", 5, 5, false, "", "", 22⟩, ⟨"Kind_", 136, 6, false, "", "", 23⟩, ⟨"Equal", 137, 7, false, "", "", 24⟩, ⟨"GCData", 138, 8, false, "", "", 32⟩, ⟨"Str", 139, 9, false, "", "", 40⟩, ⟨"PtrToThis", 140, 10, false, "", "", 44⟩], 11, 48, .agg [.int .u64 (0), .int .u64 (0), .int .u32 (0), .int .u8 (0), .int .u8 (0), .int .u8 (0), .int .u8 (0), .nilf, .nilp, .int .i32 (0), .int .i32 (0)]⟩ := rfl
theorem ti142 : ti env 142 = M.pure ⟨Go.TypeDesc.struct #[⟨"Size_", 12, 0, false, "", "", 0⟩, ⟨"PtrBytes", 12, 1, false, "", "", 8⟩, ⟨"Hash", 134, 2, false, "", "", 16⟩, ⟨"TFlag", 135, 3, false, "", "", 20⟩, ⟨"Align_", 5, 4, false, "", "", 21⟩, ⟨"FieldAlign_", 5, 5, false, "", "", 22⟩, ⟨"Kind_", 136, 6, false, "", "", 23⟩, ⟨"Equal", 137, 7, false, "", "", 24⟩, ⟨"GCData", 138, 8, false, "", "", 32⟩, ⟨"Str", 139, 9, false, "", "", 40⟩, ⟨"PtrToThis", 140, 10, false, "", "", 44⟩], 11, 48, .agg [.int .u64 (0), .int .u64 (0), .int .u32 (0), .int .u8 (0), .int .u8 (0), .int .u8 (0), .int .u8 (0), .nilf, .nilp, .int .i32 (0), .int .i32 (0)]⟩ := rfl
theorem ti143 : ti env 143 = M.pure ⟨Go.TypeDesc.unsafePointer, 1, 8, .nilp⟩ := rfl
theorem fi2 : FI 2 fu2 := rfl
theorem ff2 : FF 2 := rfl
theorem hk2 : ∀ args : List AVal, callF env (evalW env) 2 args = callI env (evalW env) 2 args := HK 2 rfl
theorem fg2 : ∀ tm : List AVal, forget env 2 tm = forgetL [F] tm := fun _ => rfl
theorem fi3 : FI 3 fu3 := rfl
theorem ff3 : FF 3 := rfl
theorem fg3 : ∀ tm : List AVal, forget env 3 tm = forgetL [T, T, F, F, T, T, T, T, T, T, T, T, T, T, T, F, F, F, F, F, F, F, T, F, F, F, F, F, F, F, T, F, F, F, F, F, F, F, F, F, F, F, F, F, F, F, F, F, F, F, F, F, F, F, F, F, F, F, F, F, F, F, F, F, F, F, F, F, F, F, F, F, F, T, F, F, F, F, F, F, T, F, F, F, F, F, F, F, F, F, F, F, F, F, F, F, F, F, F, F, F, F, F, F, F, F, F, F, F, F, F, F, F, F] tm := fun _ => rfl
theorem fi4 : FI 4 fu4 := rfl
theorem ff4 : FF 4 := rfl
theorem hk4 : ∀ args : List AVal, callF env (evalW env) 4 args = callI env (evalW env) 4 args := HK 4 rfl
theorem fg4 : ∀ tm : List AVal, forget env 4 tm = forgetL [T, T, T, F, F, F, T, T, T, T, T, T, T, T, T, T, F, F, T, F, F, F, F, F, F, F, F, F, F, F, F, F, F, F, F, F, F, F, F, F, F, F, F, F, F, F, F, F, F, F, F, F, F, F, F, F, F, F, F, F, F, F, F, F, F, F, F, F, F, F, F, F, F, F, F, F, F, F, F, F, F, F, F, F, F, F, F, F, F, F, F, F, F, F] tm := fun _ => rfl
theorem fi5 : FI 5 fu5 := rfl
theorem ff5 : FF 5 := rfl
theorem fg5 : ∀ tm : List AVal, forget env 5 tm = forgetL [T, T, T, T, F, F, F, F, T, T, T, T, T, T, T, T, T, F, F, F, F, F, F, F, F, F, F, F, F, F, F, F, F, F, F, F, F, F, F, F, F, F, F, F, F, F, F, F, F, F, F, F, F, F, F, F, F, F, F, F, F, F, F, F, F, F, F, F, F, F, F, F, F, F, F, F, F, F, F] tm := fun _ => rfl
theorem fi6 : FI 6 fu6 := rfl
theorem ff6 : FF 6 := rfl
theorem fg6 : ∀ tm : List AVal, forget env 6 tm = forgetL [T, T, T, F, F, F, T, T, T, T, T, T, T, T, T, T, T, F, F, F, F, F, F, F, T, T, T, T, F, F, F, F, F, F, F, F, F, F, F, T, F, F, F, F, F, F, F, F, F, F, F, F, F, F, F, F, F, F, F, F, F, F, F, F, F, F, F, F, F, F, F, F, F, F, F, F, F, F, F, F, F, F, F, F, F, F, F, F, F, F, F, F, F, F, F, F, F, F, F, F, F, F, F, F, F, F, F, F, F, F, F, F, F, F, F, F, F, F, F, F, F, F, F, F, F, F, F, F, F] tm := fun _ => rfl
theorem fi7 : FI 7 fu7 := rfl
theorem ff7 : FF 7 := rfl
theorem fg7 : ∀ tm : List AVal, forget env 7 tm = forgetL [T, T, F, F, T, T, T, T, T, T, T, T, T, T, T, T, T, T, T, T, F, F, F, F, F, F, F, F, F, F, F, F, F, F, F, F, F, F, F, F, F, F, F, F, F, F, F, F, F, F, F, F, F, F, F, F, F, F, F, F, F, F, F, F, F, F, F, F, F, F, F, F, F, F, F, F, F, F, F, F, F, F, F, F, F, F, F, F, F, F, F, F, F, F, F, F, F, F, F, F, F, F, F, F, F, F, F, F, F, F, F, F, F, F, F, F, F, F, F, F, F, F, F, F, F, F, F, F, F, F, F, F, T, F] tm := fun _ => rfl
theorem fi8 : FI 8 fu8 := rfl
theorem ff8 : FF 8 := rfl
theorem fg8 : ∀ tm : List AVal, forget env 8 tm = forgetL [T, T, T, F, F, F, T, T, T, T, T, T, T, T, F, F, F, F, F, F, F, F, F, F, F, F, F, T, F, F, F, F, F, F, F, F, F, F, F, F, F, F, T, F, F, F, F, F, F, F, F, F, F, F, F, F, F, F, F, F, F, F, F, F, F, F, F, F, F, F, F, F, F, F, T, F, F, F, F, F, F, F, F, F, F, F, F, F, F, F, F, F, F, F, F, F, F, F, F, F, F, F, F, F, F, F, F, F, F, F, F] tm := fun _ => rfl
theorem fi9 : FI 9 fu9 := rfl
theorem ff9 : FF 9 := rfl
theorem fg9 : ∀ tm : List AVal, forget env 9 tm = forgetL [T, T, T, T, F, T, F, T, T, T, T, T, F, T, T, T, F, T, T, T, F, T, F, T, F, T, F, T, F, T, F, F, F, F, F, F, F, F, F, F, F, F, F, F, F, F, F, F, F, F, F, F, F, F, F, F, F, F, F, F, F, F, F, F, F, F, F, F, F, F, F, F, F, F, F, F, F, F, F, F, F, F, F, F, F, F, F, F, F, F, F, F, F, F, F, F, F, F, F, F, F, F, F, F, F, F, F, F, F, F, F, F, F, F, F, F, F, F, F, F, F, F, F, T, T, T, T, F, F, F, F, F, F, F, F, F, F, F, F, F, F, F, F, F, F, F, F, F, F, F, F, F, F, F, F, F, F, F, F, F, F, F, F, F, F, F, F, F, F, F, T, T, T, T, F, F, F, F, F, F, F, F, F, F, F, F, F, F, F, F, F, F, F, F, F, F, F, F, F, F, F, F, F, F, F, F, F, F, F, F, F, F, F, F, F, F, F, F, F, F, F, F, F, F, F, F, F, F, F, F, F, F, F, F, F, F, F, F, F, F, F, F, F, F, F, F, F, F, F, F, F, F, F, F, F, F, F, F, F, F, F, F, F, F, F, F, F, F, F, F, F] tm := fun _ => rfl
theorem fi10 : FI 10 fu10 := rfl
theorem ff10 : FF 10 := rfl
theorem fg10 : ∀ tm : List AVal, forget env 10 tm = forgetL [T, T, F, F, T, T, T, T, T, T, T, T, T, F, F, F, F, F, F, F, F, F, F, F, T, F, F, F, F, F, F, F, F, F, F, F, F, F, F, F, F, F, F, F, T, F, F, F, F, F, F, F, F, F, F, F, F, F, T, T, T, T, F, F, F, F, F, F, F, T, F, F, F, F, F, F, F, F, F, F, F, F, F, F, F, F, F, F, F, F, F, F, F, F, F, F, F, F, F] tm := fun _ => rfl
theorem fi11 : FI 11 fu11 := rfl
theorem ff11 : FF 11 := rfl
theorem fg11 : ∀ tm : List AVal, forget env 11 tm = forgetL [T, T, F, F, T, T, T, T, T, F, T, T, T, T, T, T, T, T, F, F, F, F, F, F, F, F, F, F, F, F, F, F, F, F, T, F, F, F, F, F, F, F, T, F, F, F, F, F, F, F, T, T, T, T, F, F, F, F, F, F, F, F, F, F, F, F, F, F, F, F, F, F, F, F, F, F, F, F, T, F, F, F, F, T, F, F, F, F, F, F, F, F, F, F, F, F, F, F, F, F, F, T, F, T, F, T, F, F, F, F, F, F, F, F, F, F, F, F, F, F, F, F, F, F, F, F, F, F, F, T, F, F] tm := fun _ => rfl
theorem fi12 : FI 12 fu12 := rfl
theorem ff12 : FF 12 := rfl
theorem fg12 : ∀ tm : List AVal, forget env 12 tm = forgetL [T, T, F, F, T, T, T, T, T, T, T, T, T, T, T, T, T, F, F, F, F, F, F, F, F, F, F, F, T, F, F, F, F, F, F, F, F, F, F, F, F, F, F, F, F, F, F, F, F, F, F, F, F, F, F, F, F, F, F, F, F, F, F, F, F, F, T, F, F, F, F, F, F, F, F, F, F, F, F, F, F, F, F, F, F, F, F, T, F, F, F, F, F, F, F, F, F, F, F, F, F, F, F, F, F, F, F, F, F, F, F, F, F, F, F, F, F, F, F, F, F, F, F, F, F, F, F, F, F, F, F, F, F, F, F, F, F, F, F, F, F, F, F, F, F, F, F, F, F, F, F, F, F, F, F] tm := fun _ => rfl
theorem fi13 : FI 13 fu13 := rfl
theorem ff13 : FF 13 := rfl
theorem fg13 : ∀ tm : List AVal, forget env 13 tm = forgetL [T, T, F, F, T, T, T, T, T, T, T, T, T, T, T, F, F, F, F, F, F, F, F, F, F, F, F, F, F, F, F, F, F, F, F, T, F, F, F, F, F, F, F, T, F, F, F, F, F, F, T, T, T, F, F, F, F, F, F, F, T, F, F, F, F, F, F, F, F, F, F, F, F, T, F, F, F, F, F, F, F, F, F, F, F, F, F, F, F, F, F, F, F, F, F, F, F, F, F, F, F, F, F, F, F, F, F, F, T, F, F, F, F, F, F, F] tm := fun _ => rfl
theorem fi14 : FI 14 fu14 := rfl
theorem ff14 : FF 14 := rfl
theorem fg14 : ∀ tm : List AVal, forget env 14 tm = forgetL [T, T, F, F, T, T, T, T, T, T, T, T, T, T, F, F, T, F, F, F, F, F, F, F, F, F, F, F, F, F, F, F, F, F, F, F, T, F, T, F, T, T, T, F, F, F, F, F, F, F, F, T, F, F, F, F, F, F, F, F, F, F, F, F, F, F, F, F, F, F, F, F, F, F, F, F, F, F, F, F, F, F, F, F, F, F, F, F, F, F, F, F, F, F, F, F, T, F, T, T, T, F, F, F, F, F, T, T, T, F, F, F, F, F, F, F, F, F, F, F, F, F, F, F, F, F, F, F, F, F, F, F, F, F, F, F, F, F] tm := fun _ => rfl
theorem fi15 : FI 15 fu15 := rfl
theorem ff15 : FF 15 := rfl
theorem fg15 : ∀ tm : List AVal, forget env 15 tm = forgetL [T, T, T, T, T, T, T, T, T, T, T, T, T, F, T, F, T, F, T, T, T, T, F, T, F, T, T, T, T, T, T, T, F, T, F, T, T, F, F, F, F, F, F, F, F, F, F, F, F, F, F, F, F, F, F, F, F, F, F, F, F, F, F, F, F, F, F, F, F, F, F, F, F, F, F, F, F, F, F, F, F, F, F, F, F, F, F, F, F, F, F, F, F, F, F, F, F, F, F, F, F, F, F, F, F, F, F, F, F, F, F, F, T, F, F, F, F, F, F, F, F, F, F, F, F, F, F, F, F, F, F, F, F, F, F, F, F, F, F, F, F, F, F, F, F, F, F, F, F, F, F, F, F, F, F, F, F, F, F, F, F, F, F, F, F, F, F, F, F, F, F, F, F, F, F, F, F, F, F, F, F, F, F, F, F, F, F, F, F, F, F, F, F, F, F, F, F, F, F, F, F, F, F, F, F, F, F, F, F, F, F, F, F, F, F, F, F, F, F, F, F, F, F, F, F, F, F, F, F, F, F, F, F, F, F, F, F, F, F, F, F, F, F, F, F, F, F, F, F, F, F, F, F, F, F, F, F, F, F, F, F, F, F, F, F, F, F, F, F, F, F, F, F, F, F, F, F, F, F, F, F, F, F, F, F, F, F, F, F, F, F, F, F, F, F, F, F, F, F, F, F, F, F, F, F, F, F, F, F, F, F, F, F, F, F, F, F, F, F, F, F, F, F, F, F, F, F, F, F, F, F, F, F, F, F, F, F, F] tm := fun _ => rfl
theorem fi16 : FI 16 fu16 := rfl
theorem ff16 : FF 16 := rfl
theorem fg16 : ∀ tm : List AVal, forget env 16 tm = forgetL [T, F, F, F, F, F, F, F, F, F, F, F, F, F, F, F, F, F, F, F, F, F, F, F, F, F] tm := fun _ => rfl
theorem fi17 : FI 17 fu17 := rfl
theorem ff17 : FF 17 := rfl
theorem fg17 : ∀ tm : List AVal, forget env 17 tm = forgetL [T, F, T, T, F, F, F, F, F, T, F, F] tm := fun _ => rfl
theorem fi18 : FI 18 fu18 := rfl
theorem ff18 : FF 18 := rfl
theorem fg18 : ∀ tm : List AVal, forget env 18 tm = forgetL [T, F, T, T, T, T, T, T, F, F, T, T, T, T, T, F, F, F, F, F, F, F, F, F, F, F, F, T, F, F, F, F, F, F, F, F, F, F, F, F, F, F, F, F, F, T, F] tm := fun _ => rfl
theorem fi19 : FI 19 fu19 := rfl
theorem ff19 : FF 19 := rfl
theorem fg19 : ∀ tm : List AVal, forget env 19 tm = forgetL [T, F, T, T, T, T, T, T, T, F, F, F, F, F, F, F, F, F, F, F, F, F, F, F, T, F] tm := fun _ => rfl
theorem fi20 : FI 20 fu20 := rfl
theorem ff20 : FF 20 := rfl
theorem fg20 : ∀ tm : List AVal, forget env 20 tm = forgetL [T, F, T, T, F, F, F, F, F, T, F, F] tm := fun _ => rfl
theorem fi21 : FI 21 fu21 := rfl
theorem ff21 : FF 21 := rfl
theorem fg21 : ∀ tm : List AVal, forget env 21 tm = forgetL [T, F, T, T, T, T, T, T, T, F, F, T, F, F, F, T, F, F, F, F, F, F, F, F, F, F, F, F, F, F, F, T, F, F, F, F, F, F, F, F, F, T, F, F, F, F, F, F, F, T, F] tm := fun _ => rfl
theorem fi22 : FI 22 fu22 := rfl
theorem ff22 : FF 22 := rfl
theorem fg22 : ∀ tm : List AVal, forget env 22 tm = forgetL [T, F, T, T, F, F, F, T, F, F, F, F, F, F, F, F, F, F, F, F, F, T, F, F, F, F, T] tm := fun _ => rfl
theorem fi23 : FI 23 fu23 := rfl
theorem ff23 : FF 23 := rfl
theorem fg23 : ∀ tm : List AVal, forget env 23 tm = forgetL [T, F, T, F, F, F] tm := fun _ => rfl
theorem fi24 : FI 24 fu24 := rfl
theorem ff24 : FF 24 := rfl
theorem fg24 : ∀ tm : List AVal, forget env 24 tm = forgetL [T, F, T, F, F, F] tm := fun _ => rfl
theorem fi25 : FI 25 fu25 := rfl
theorem ff25 : FF 25 := rfl
theorem fg25 : ∀ tm : List AVal, forget env 25 tm = forgetL [T, T, F, F, T, T, T, F, F, T, F, F, T, F, F, F, F, F, F] tm := fun _ => rfl
theorem fi26 : FI 26 fu26 := rfl
theorem ff26 : FF 26 := rfl
theorem fg26 : ∀ tm : List AVal, forget env 26 tm = forgetL [T, T, F, F, T, T, T, F, F, T, F, F, F, T, T, T, F, F, F, T, F, F, F, T, F, F, F, T, F, F, T, F, F, F, T, F, F, F, F, F, F, F] tm := fun _ => rfl
theorem fi27 : FI 27 fu27 := rfl
theorem ff27 : FF 27 := rfl
theorem fg27 : ∀ tm : List AVal, forget env 27 tm = forgetL [T, T, T, F, F, F, T, T, T, F, F, T, F, F, T, F, F, F, F, F, F, F, F, F, F, F, F] tm := fun _ => rfl
theorem fi28 : FI 28 fu28 := rfl
theorem ff28 : FF 28 := rfl
theorem fg28 : ∀ tm : List AVal, forget env 28 tm = forgetL [T, T, T, F, F, F, T, T, T, T, F, F, T, F, F, F, F, F, F, F, F, F, T, T, T, F, F, F, F, T, F, F, F, F, T, F, F, F, F, F, F, F, F, T, F, F, F, F, F, F, F, F, T, F, F, F, F, F, F, T, F, F, F, F, F, T, F, F, F, F, F, T, F, F, F, F, F, T, F, F, F, F, F, T, F, F, F, F, F, T, F, F, F, T, F, F, F, F, T, F, F] tm := fun _ => rfl
theorem fi29 : FI 29 fu29 := rfl
theorem ff29 : FF 29 := rfl
theorem fg29 : ∀ tm : List AVal, forget env 29 tm = forgetL [T, T, T, F, F, F, T, F, F, F, F, F, F, F, F] tm := fun _ => rfl
theorem fi30 : FI 30 fu30 := rfl
theorem ff30 : FF 30 := rfl
theorem fg30 : ∀ tm : List AVal, forget env 30 tm = forgetL [T, T, T, F, F, F, T, F, F, F, F, F, F, F, F] tm := fun _ => rfl
theorem fi31 : FI 31 fu31 := rfl
theorem ff31 : FF 31 := rfl
theorem fg31 : ∀ tm : List AVal, forget env 31 tm = forgetL [T, F, T, T, F, F, F, T, F, F, F, T, F, F] tm := fun _ => rfl
theorem fi32 : FI 32 fu32 := rfl
theorem ff32 : FF 32 := rfl
theorem fg32 : ∀ tm : List AVal, forget env 32 tm = forgetL [T, F, T, T, T, F, F, F, F, F, F, T, F, F, F, F, F, F, F, F, F, F, F, F, F, T, F] tm := fun _ => rfl
theorem fi33 : FI 33 fu33 := rfl
theorem ff33 : FF 33 := rfl
theorem fg33 : ∀ tm : List AVal, forget env 33 tm = forgetL [T, T, F, F, T, T, T, F, F, F, F, F, F, F, F, F, F, F, F, F, F, F, F, F, F, F] tm := fun _ => rfl
theorem fi34 : FI 34 fu34 := rfl
theorem ff34 : FF 34 := rfl
theorem fg34 : ∀ tm : List AVal, forget env 34 tm = forgetL [T, T, F, F, T, T, T, T, T, F, F, F, F, F, F, F, F, F, F, F, F, F, F, F, F, F, F, F, F, F, F, F, F, F, F, F, F] tm := fun _ => rfl
theorem fi35 : FI 35 fu35 := rfl
theorem ff35 : FF 35 := rfl
theorem fg35 : ∀ tm : List AVal, forget env 35 tm = forgetL [T, F, F, F, F, F, F, F, F, F, F] tm := fun _ => rfl
theorem fi36 : FI 36 fu36 := rfl
theorem ff36 : FF 36 := rfl
theorem fg36 : ∀ tm : List AVal, forget env 36 tm = forgetL [T, T, F, F, T, T, T, F, T, T, T, F, F, F, F, F, F, T, F, F, T, T, T, F, F, F, F, F, F, F, T, F, F, F, F, F, F, F, F, F] tm := fun _ => rfl
theorem fi37 : FI 37 fu37 := rfl
theorem ff37 : FF 37 := rfl
theorem fg37 : ∀ tm : List AVal, forget env 37 tm = forgetL [T, F, T, T, T, F, T, F, F, T, T, T, T, F, F, F, F, T, F, F, F, F, F, F, F, F, F, F, T, F] tm := fun _ => rfl
theorem fi38 : FI 38 fu38 := rfl
theorem ff38 : FF 38 := rfl
theorem fg38 : ∀ tm : List AVal, forget env 38 tm = forgetL [T, T, F, F, T, T, T, T, F, F, T, F, F, F, T, F, F, F, F, F, F, F, F, F, F, F, F, F, F, F, F, F, F, F, F, F, F, F, F, F, F, F, T, F, F, F, T, F, F, F, F, F] tm := fun _ => rfl
theorem fi39 : FI 39 fu39 := rfl
theorem ff39 : FF 39 := rfl
theorem fg39 : ∀ tm : List AVal, forget env 39 tm = forgetL [T, T, F, F, T, T, F, F, F, F, T, F, F, F, T, F, F, F, F, F, F, F, F, F, F, F, F, T] tm := fun _ => rfl
theorem fi40 : FI 40 fu40 := rfl
theorem ff40 : FF 40 := rfl
theorem fg40 : ∀ tm : List AVal, forget env 40 tm = forgetL [T, F, T, F, T, F, F, F, F, F, F] tm := fun _ => rfl
theorem fi41 : FI 41 fu41 := rfl
theorem ff41 : FF 41 := rfl
theorem fg41 : ∀ tm : List AVal, forget env 41 tm = forgetL [T, F, T, F, T, F, F, F, F, F, F] tm := fun _ => rfl
theorem fi42 : FI 42 fu42 := rfl
theorem ff42 : FF 42 := rfl
theorem fg42 : ∀ tm : List AVal, forget env 42 tm = forgetL [T, F, T, F, T, F, F, F, F] tm := fun _ => rfl
theorem fi43 : FI 43 fu43 := rfl
theorem ff43 : FF 43 := rfl
theorem fg43 : ∀ tm : List AVal, forget env 43 tm = forgetL [T, T, F, F, T, T, T, F, F, T, F, F, F, F, F, F, F, F, F, F, F, F, F, F, F, F] tm := fun _ => rfl
theorem fi44 : FI 44 fu44 := rfl
theorem ff44 : FF 44 := rfl
theorem fg44 : ∀ tm : List AVal, forget env 44 tm = forgetL [T, F, T, F, F, F] tm := fun _ => rfl
theorem fi45 : FI 45 fu45 := rfl
theorem ff45 : FF 45 := rfl
theorem fg45 : ∀ tm : List AVal, forget env 45 tm = forgetL [T, T, F, F, T, T, F, F, T, F, F, F, T, F, F, F, F, F, F, F, F, F, F] tm := fun _ => rfl
theorem fi46 : FI 46 fu46 := rfl
theorem ff46 : FF 46 := rfl
theorem fg46 : ∀ tm : List AVal, forget env 46 tm = forgetL [T, F, T, T, T, T, F, F, F, F, F, F, T, F, F, F, F, F, F] tm := fun _ => rfl
theorem fi47 : FI 47 fu47 := rfl
theorem ff47 : FF 47 := rfl
theorem fg47 : ∀ tm : List AVal, forget env 47 tm = forgetL [T, F, T, T, T, T, F, F, F, F, F, T, F, F, F, F, F, F, F, T, F, F, F, F, F, F, F, F, F, F, F, F, F, F, F, F, T, F] tm := fun _ => rfl
theorem fi48 : FI 48 fu48 := rfl
theorem ff48 : FF 48 := rfl
theorem fg48 : ∀ tm : List AVal, forget env 48 tm = forgetL [T, T, T, F, F, T, T, T, T, T, T, T, T, T, T, T, T, T, T, T, T, T, T, T, F, T, T, F, F, F, F, F, F, F, F, F, F, T, F, F, F, F, F, F, F, F, F, F, F, F, F, F, F, F, F, F, F, F, F, F, T, T, T, F, F, F, F, F, F, F, F, F, T, F, F, F, F, F, F, F, F, F, F, F, F, F, F, F, F, F, F, F, F, F, T, F, F, F, F, F, F, F, F, F, F, F, F, F, F, F, F, F, F, F, F, F, F, F, F, F, F, T, T, T, F, F, F, F, F, F, F, F, F, T, F, F, F, F, F, F, F, F, F, F, F, F, F, F, F, F, F, F, F] tm := fun _ => rfl
theorem fi49 : FI 49 fu49 := rfl
theorem ff49 : FF 49 := rfl
theorem fg49 : ∀ tm : List AVal, forget env 49 tm = forgetL [T, F, T, T, F, F, F, F, F, F, F, F, F, F, F, F, F, F, F, F, F, F, F, F, F, F, F, F, F, F, F, F, F, F, F, F, F, F, F, F] tm := fun _ => rfl
theorem fi50 : FI 50 fu50 := rfl
theorem ff50 : FF 50 := rfl
theorem fg50 : ∀ tm : List AVal, forget env 50 tm = forgetL [T, T, T, F, F, F, T, T, F, T, F, F, T, T, T, T, F, F, F, F, F, T, F, F, F, F, F] tm := fun _ => rfl
theorem fi51 : FI 51 fu51 := rfl
theorem ff51 : FF 51 := rfl
theorem fg51 : ∀ tm : List AVal, forget env 51 tm = forgetL [T, F, T, T, T, T, T, F, T, T, T, F, F, F, F, F, F, F, F, F, F, F, F, F, F, F, F, T, F] tm := fun _ => rfl
theorem fi52 : FI 52 fu52 := rfl
theorem ff52 : FF 52 := rfl
theorem fg52 : ∀ tm : List AVal, forget env 52 tm = forgetL [T, F, T, T, F, T, F, T, T, T, T, F, F, F, F, F, F, F, F] tm := fun _ => rfl
theorem fi53 : FI 53 fu53 := rfl
theorem ff53 : FF 53 := rfl
theorem fg53 : ∀ tm : List AVal, forget env 53 tm = forgetL [T, F, T, T, T, T, T, F, F, F, F, F, F, T, F, F, F, F, F, F, F, T, F, F, F, F, F, F] tm := fun _ => rfl
theorem fi54 : FI 54 fu54 := rfl
theorem ff54 : FF 54 := rfl
theorem fg54 : ∀ tm : List AVal, forget env 54 tm = forgetL [T, F, T, T, T, T, T, F, T, F, F, T, T, T, F, T, F, F, F, F, F, F, T, F, F, F, F, F, F, F, F, F, F, F, F] tm := fun _ => rfl
theorem fi55 : FI 55 fu55 := rfl
theorem ff55 : FF 55 := rfl
theorem hk55 : ∀ args : List AVal, callF env (evalW env) 55 args = callI env (evalW env) 55 args := HK 55 rfl
theorem fg55 : ∀ tm : List AVal, forget env 55 tm = forgetL [T, T, F, F, T, F, F, F, F, F] tm := fun _ => rfl
theorem fi56 : FI 56 fu56 := rfl
theorem ff56 : FF 56 := rfl
theorem fg56 : ∀ tm : List AVal, forget env 56 tm = forgetL [T, F, T, T, T, T, F, F, T, F, F, F, T, F, F, F, F, F, F, F, F, F, F, T, F, F, F, F, F, F, F, T, F, F, F, F, F, T, F, F, F, F, F, F, F, F, F] tm := fun _ => rfl
theorem fi57 : FI 57 fu57 := rfl
theorem ff57 : FF 57 := rfl
theorem fg57 : ∀ tm : List AVal, forget env 57 tm = forgetL [T, F, T, T] tm := fun _ => rfl
theorem fi58 : FI 58 fu58 := rfl
theorem ff58 : FF 58 := rfl
theorem fg58 : ∀ tm : List AVal, forget env 58 tm = forgetL [T, F, T, T] tm := fun _ => rfl
theorem fi59 : FI 59 fu59 := rfl
theorem ff59 : FF 59 := rfl
theorem fg59 : ∀ tm : List AVal, forget env 59 tm = forgetL [T, F, T, T, T, F, T, F, T, F, T, F, T, F, T, F] tm := fun _ => rfl
theorem fi60 : FI 60 fu60 := rfl
theorem ff60 : FF 60 := rfl
theorem fg60 : ∀ tm : List AVal, forget env 60 tm = forgetL [T, F, T, F, F, F, F, F, F] tm := fun _ => rfl
theorem fi61 : FI 61 fu61 := rfl
theorem ff61 : FF 61 := rfl
theorem fg61 : ∀ tm : List AVal, forget env 61 tm = forgetL [T, F, T, F, F, F, F, F, F] tm := fun _ => rfl
theorem fi62 : FI 62 fu62 := rfl
theorem ff62 : FF 62 := rfl
theorem fg62 : ∀ tm : List AVal, forget env 62 tm = forgetL [T, F, T, T, T, F, T, F, T, F, T, F, T, F, F, T, F, T, F, T, F, T, F, T, F, T, F, T, F] tm := fun _ => rfl
theorem fi63 : FI 63 fu63 := rfl
theorem ff63 : FF 63 := rfl
theorem fg63 : ∀ tm : List AVal, forget env 63 tm = forgetL [T, T, F, F, F, F, F, F, F, F, F, F, F] tm := fun _ => rfl
theorem fi64 : FI 64 fu64 := rfl
theorem ff64 : FF 64 := rfl
theorem fg64 : ∀ tm : List AVal, forget env 64 tm = forgetL [T, F, T, F, T, F, F, F] tm := fun _ => rfl
theorem fi65 : FI 65 fu65 := rfl
theorem ff65 : FF 65 := rfl
theorem fg65 : ∀ tm : List AVal, forget env 65 tm = forgetL [T, F, T, F, F, F, F, F, F, F, F, F] tm := fun _ => rfl
theorem fi66 : FI 66 fu66 := rfl
theorem ff66 : FF 66 := rfl
theorem fg66 : ∀ tm : List AVal, forget env 66 tm = forgetL [T, F, T, F, F, F, F, F] tm := fun _ => rfl
theorem fi67 : FI 67 fu67 := rfl
theorem ff67 : FF 67 := rfl
theorem fg67 : ∀ tm : List AVal, forget env 67 tm = forgetL [T, F, T, T, T, F, F, T, F, F, F, F, F, F, F, T, F, F, F, F, F, F, T, F, F, T, F, F, T, F] tm := fun _ => rfl
theorem fi68 : FI 68 fu68 := rfl
theorem ff68 : FF 68 := rfl
theorem fg68 : ∀ tm : List AVal, forget env 68 tm = forgetL [T, F, T, F, T, F, F, F] tm := fun _ => rfl
theorem fi69 : FI 69 fu69 := rfl
theorem ff69 : FF 69 := rfl
theorem fg69 : ∀ tm : List AVal, forget env 69 tm = forgetL [T, T, F, F, T, T, T, T, F, T, F, F, F, F, F, T, F, F, F, F, F, F, T, T, T, T, F, F, F, F, F, F, F, F, F, F, F, F, T, F, F, F, F, T, F, F, F, F, F, F, F, F, F, T, F, F, F, F, F, T, F, F, F, F, F, F, F, F, T, F, F, F, F, F, T, F, F, F, F, F, F, F, F, F, T, F, F, F, F, F, F, F, T, F, F, F, F, F, F, F, F] tm := fun _ => rfl
theorem fi70 : FI 70 fu70 := rfl
theorem ff70 : FF 70 := rfl
theorem fg70 : ∀ tm : List AVal, forget env 70 tm = forgetL [T, F, T, T, F, T, T, T, T, T, F, F, F, F, F, F, F, F, F] tm := fun _ => rfl
theorem fi71 : FI 71 fu71 := rfl
theorem ff71 : FF 71 := rfl
theorem fg71 : ∀ tm : List AVal, forget env 71 tm = forgetL [T, T, F, T, T, T, T, T, F, T, T, T, F, F, T, F, F] tm := fun _ => rfl
theorem fi72 : FI 72 fu72 := rfl
theorem ff72 : FF 72 := rfl
theorem fg72 : ∀ tm : List AVal, forget env 72 tm = forgetL [T, T, F, F, T, T, T, F, F, F, F, F, F, F, F, F, F, F, F, F, F, F, F, F, F, F, F, F, F, F, F, F] tm := fun _ => rfl
theorem fi73 : FI 73 fu73 := rfl
theorem ff73 : FF 73 := rfl
theorem fg73 : ∀ tm : List AVal, forget env 73 tm = forgetL [T, F, T, T, F, F, F] tm := fun _ => rfl
theorem fi74 : FI 74 fu74 := rfl
theorem ff74 : FF 74 := rfl
theorem fg74 : ∀ tm : List AVal, forget env 74 tm = forgetL [T, T, F, F, T, T, T, T, F, F, F, T, F, F, F, F, F, F, F, T, F, F, F, F, F, F, F, F, F, F, F, F, T, F, F, F, F, F, F, F, F, F, F, F, F, F, F] tm := fun _ => rfl
theorem fi75 : FI 75 fu75 := rfl
theorem ff75 : FF 75 := rfl
theorem fg75 : ∀ tm : List AVal, forget env 75 tm = forgetL [T, T, F, F, T, F, F, T, F, F, F, F, F, F, F, F, F, F, F, T, F, F, F, F, F, F, F, F, F, F, F] tm := fun _ => rfl
theorem fi76 : FI 76 fu76 := rfl
theorem ff76 : FF 76 := rfl
theorem fg76 : ∀ tm : List AVal, forget env 76 tm = forgetL [T, F, T, T, T, T, F, F, F, F, F, F, T, F, F, F, F, F, F, F, F, F, F, F, F, F, F, F, F] tm := fun _ => rfl
theorem fi77 : FI 77 fu77 := rfl
theorem ff77 : FF 77 := rfl
theorem fg77 : ∀ tm : List AVal, forget env 77 tm = forgetL [T, T, F, F, T, T, F, F, F, F, F, F, F, F, F, F, T, F, F, F, F, F, F, F, F, F, F, F, F, F, F, F] tm := fun _ => rfl
theorem fi78 : FI 78 fu78 := rfl
theorem ff78 : FF 78 := rfl
theorem fg78 : ∀ tm : List AVal, forget env 78 tm = forgetL [T, F, T, T, T, T, T, T, F, F, F, F, F, F, T, F, F, F, F, F, F, F, T, F, F, F, F, F, F, F, F, F, F, F, F, F, F, F, F] tm := fun _ => rfl
theorem fi79 : FI 79 fu79 := rfl
theorem ff79 : FF 79 := rfl
theorem fg79 : ∀ tm : List AVal, forget env 79 tm = forgetL [T, F, T, T, T, T, F, T, F, T, F, T, F, T, F, T, F, T, F, T, F, T, F, T, F, T, F, T, F, T, F] tm := fun _ => rfl
theorem fi80 : FI 80 fu80 := rfl
theorem ff80 : FF 80 := rfl
theorem fg80 : ∀ tm : List AVal, forget env 80 tm = forgetL [T, T, T, F] tm := fun _ => rfl
theorem fi81 : FI 81 fu81 := rfl
theorem ff81 : FF 81 := rfl
theorem fg81 : ∀ tm : List AVal, forget env 81 tm = forgetL [T, F, T, F, T, F, F, F, F, F] tm := fun _ => rfl
theorem fi82 : FI 82 fu82 := rfl
theorem ff82 : FF 82 := rfl
theorem fg82 : ∀ tm : List AVal, forget env 82 tm = forgetL [T, F, T, F, F] tm := fun _ => rfl
theorem fi83 : FI 83 fu83 := rfl
theorem ff83 : FF 83 := rfl
theorem fg83 : ∀ tm : List AVal, forget env 83 tm = forgetL [T, F, T, F, F] tm := fun _ => rfl
theorem fi84 : FI 84 fu84 := rfl
theorem ff84 : FF 84 := rfl
theorem fg84 : ∀ tm : List AVal, forget env 84 tm = forgetL [T, F, T, F, F] tm := fun _ => rfl
theorem fi85 : FI 85 fu85 := rfl
theorem ff85 : FF 85 := rfl
theorem fg85 : ∀ tm : List AVal, forget env 85 tm = forgetL [T, F, T, F, F, F] tm := fun _ => rfl
theorem fi86 : FI 86 fu86 := rfl
theorem ff86 : FF 86 := rfl
theorem fg86 : ∀ tm : List AVal, forget env 86 tm = forgetL [T, F, T, F, F, F] tm := fun _ => rfl
theorem fi87 : FI 87 fu87 := rfl
theorem ff87 : FF 87 := rfl
theorem fg87 : ∀ tm : List AVal, forget env 87 tm = forgetL [T, F, T, F, F, F] tm := fun _ => rfl
theorem fi88 : FI 88 fu88 := rfl
theorem ff88 : FF 88 := rfl
theorem fg88 : ∀ tm : List AVal, forget env 88 tm = forgetL [T, T, F, F, T, F, F, F] tm := fun _ => rfl
theorem fi89 : FI 89 fu89 := rfl
theorem ff89 : FF 89 := rfl
theorem fg89 : ∀ tm : List AVal, forget env 89 tm = forgetL [T, T, F, F, T, F, F, F] tm := fun _ => rfl
theorem fi90 : FI 90 fu90 := rfl
theorem ff90 : FF 90 := rfl
theorem fg90 : ∀ tm : List AVal, forget env 90 tm = forgetL [T, T, F, F, T, F, F, F, F, F] tm := fun _ => rfl
theorem fi91 : FI 91 fu91 := rfl
theorem ff91 : FF 91 := rfl
theorem fg91 : ∀ tm : List AVal, forget env 91 tm = forgetL [T, T, F, F, T, F, F, F, F, F] tm := fun _ => rfl
theorem fi92 : FI 92 fu92 := rfl
theorem ff92 : FF 92 := rfl
theorem fg92 : ∀ tm : List AVal, forget env 92 tm = forgetL [T, T, F, F, T, F, F, F, F] tm := fun _ => rfl
theorem fi93 : FI 93 fu93 := rfl
theorem ff93 : FF 93 := rfl
theorem fg93 : ∀ tm : List AVal, forget env 93 tm = forgetL [T, T, F, F, T, F, F, F, F] tm := fun _ => rfl
theorem fi94 : FI 94 fu94 := rfl
theorem ff94 : FF 94 := rfl
theorem fg94 : ∀ tm : List AVal, forget env 94 tm = forgetL [T, T, F, F, T, F, F, F, F] tm := fun _ => rfl
theorem fi95 : FI 95 fu95 := rfl
theorem ff95 : FF 95 := rfl
theorem fg95 : ∀ tm : List AVal, forget env 95 tm = forgetL [T, T, F, F, T, F, F, F, F] tm := fun _ => rfl
theorem fi96 : FI 96 fu96 := rfl
theorem ff96 : FF 96 := rfl
theorem fg96 : ∀ tm : List AVal, forget env 96 tm = forgetL [T, T, F, F, T, F, F, F, F] tm := fun _ => rfl
theorem fi97 : FI 97 fu97 := rfl
theorem ff97 : FF 97 := rfl
theorem fg97 : ∀ tm : List AVal, forget env 97 tm = forgetL [T, T, F, F, T, F, F, F, F] tm := fun _ => rfl
theorem fi98 : FI 98 fu98 := rfl
theorem ff98 : FF 98 := rfl
theorem fg98 : ∀ tm : List AVal, forget env 98 tm = forgetL [T, T, F, F, T, F, F, F] tm := fun _ => rfl
theorem fi99 : FI 99 fu99 := rfl
theorem ff99 : FF 99 := rfl
theorem fg99 : ∀ tm : List AVal, forget env 99 tm = forgetL [T, T, F, F, T, F, F, F] tm := fun _ => rfl
theorem fi100 : FI 100 fu100 := rfl
theorem ff100 : FF 100 := rfl
theorem fg100 : ∀ tm : List AVal, forget env 100 tm = forgetL [T, F, T, T, T, T, F, F, T, F, F, T, F, F, T, F, F, T, F, F, T, F, F, T, F, F, T, F, F, T, F, F, T, F, F, T, F, F, T, F, F] tm := fun _ => rfl
theorem fi101 : FI 101 fu101 := rfl
theorem ff101 : FF 101 := rfl
theorem fg101 : ∀ tm : List AVal, forget env 101 tm = forgetL [T, T, F, F, T, F, F, F, F, F, F, F, F, F, F, F, F] tm := fun _ => rfl
theorem fi102 : FI 102 fu102 := rfl
theorem ff102 : FF 102 := rfl
theorem fg102 : ∀ tm : List AVal, forget env 102 tm = forgetL [T, T, F, F, T, T, T, T, T, F, F, F, F, F, F, T, F, F, F, F, F, F, F, F, F, F, T, F, F, F, F, F, T, F, F, F, F, F, F, F, F, F, F, F, F, F, F, F, F, F, F, F, F, F, F, F, F, F, F, F] tm := fun _ => rfl
theorem fi103 : FI 103 fu103 := rfl
theorem ff103 : FF 103 := rfl
theorem fg103 : ∀ tm : List AVal, forget env 103 tm = forgetL [T, T, T, F] tm := fun _ => rfl
theorem fi104 : FI 104 fu104 := rfl
theorem ff104 : FF 104 := rfl
theorem fg104 : ∀ tm : List AVal, forget env 104 tm = forgetL [T, T, F, F, T, T, T, T, T, T, T, T, T, T, T, T, T, F, F, F, F, F, F, F, F, F, F, F, F, F, F, F, F, F, F, F, F, F, F, F, T, F, F, F, T, F, F, F, F, F, F, F, F, F, F, F, F, F, F, F, F, F, F, F, F, F, F, F, F, F, T, F, F, F, F, F, F, F, F, F, F, F, F, F, F, F, F, F, F, F, F, F, T, F, F, F, F, F, F, F, F, F, F, F, F, F, T, F, F, F, F, F, T, F, F, F, F, F, F, F, F, F, F, F, F, F, F, F, F, F, F, F, F, F, F, F, F, F, F, F, F, F, F, F, F, F, F, F, F, F, T, F, F, F, F, F, F, F, F, T, F, F, F, F, F, F, T, F, F, F, F, F, F, F, F, F, F, F, T, F, F, F, F, F, F, F, F, F, F, F, F, F, F, F, F, T, F, F, F, F, F, F, F, F, F, F, F, F, F, F, F, F, F, F, F, F, F, F, F, F, F, F, F, F, T, F, F, F, F, F, F, F, F, F, F, F, F, F, F, F, F, F, F, F, F, F, T, F, F, T, F, F, F, F, F, F, F, F, F, F, T, F, F, F, F, F, F, F, F, F, F, F, F, F, F] tm := fun _ => rfl
theorem fi105 : FI 105 fu105 := rfl
theorem ff105 : FF 105 := rfl
theorem fg105 : ∀ tm : List AVal, forget env 105 tm = forgetL [T, T, F, T, F, T, F, F, F, F, F, F, F, F, F, T] tm := fun _ => rfl
theorem fi106 : FI 106 fu106 := rfl
theorem ff106 : FF 106 := rfl
theorem fg106 : ∀ tm : List AVal, forget env 106 tm = forgetL [T, T, T, F, F, F, T, T, F, F, F, F, F, F, F, F, T, F, F, F, F, F, F, F, F, F, F, F, F, F, F, F, F] tm := fun _ => rfl
theorem fi107 : FI 107 fu107 := rfl
theorem ff107 : FF 107 := rfl
theorem fg107 : ∀ tm : List AVal, forget env 107 tm = forgetL [T, T, T, T, T, F, F, F, F, T, T, T, F, F, F, F, F, F, F, F, F, F, F, T] tm := fun _ => rfl
theorem fi108 : FI 108 fu108 := rfl
theorem ff108 : FF 108 := rfl
theorem fg108 : ∀ tm : List AVal, forget env 108 tm = forgetL [T, T, T, F] tm := fun _ => rfl
theorem fi109 : FI 109 fu109 := rfl
theorem ff109 : FF 109 := rfl
theorem fg109 : ∀ tm : List AVal, forget env 109 tm = forgetL [T, F, T, T, F, F, F] tm := fun _ => rfl
theorem fi110 : FI 110 fu110 := rfl
theorem ff110 : FF 110 := rfl
theorem fg110 : ∀ tm : List AVal, forget env 110 tm = forgetL [T, T, F, T, F, F, F, F, T, F, F, F, F, F, F, F, F, F, T] tm := fun _ => rfl
theorem bl9s : ∀ ts l, bLen env (9 :: ts) (.str l) = M.pure (.int .i64 (l.length : Nat)) := fun _ _ => rfl
theorem bl10s : ∀ ts l, bLen env (10 :: ts) (.str l) = M.pure (.int .i64 (l.length : Nat)) := fun _ _ => rfl
theorem bl11s : ∀ ts l, bLen env (11 :: ts) (.str l) = M.pure (.int .i64 (l.length : Nat)) := fun _ _ => rfl
theorem bl22a : ∀ ts id off len cap sz, bLen env (22 :: ts) (.sl id off len cap sz) = M.pure (.int .i64 (len : Nat)) := fun _ _ _ _ _ _ => rfl
theorem bl22b : ∀ ts g sz off len, bLen env (22 :: ts) (.isl g sz off len) = M.pure (.int .i64 (len : Nat)) := fun _ _ _ _ _ => rfl
theorem bl22c : ∀ ts, bLen env (22 :: ts) .nils = M.pure (.int .i64 0) := fun _ => rfl
theorem bl22d : ∀ ts, bLen env (22 :: ts) .emp = M.pure (.int .i64 0) := fun _ => rfl
theorem bl44r : ∀ ts v, bLen env (44 :: ts) v = M.pure (.int .i64 8) := fun _ _ => rfl
theorem bl50a : ∀ ts id off len cap sz, bLen env (50 :: ts) (.sl id off len cap sz) = M.pure (.int .i64 (len : Nat)) := fun _ _ _ _ _ _ => rfl
theorem bl50b : ∀ ts g sz off len, bLen env (50 :: ts) (.isl g sz off len) = M.pure (.int .i64 (len : Nat)) := fun _ _ _ _ _ => rfl
theorem bl50c : ∀ ts, bLen env (50 :: ts) .nils = M.pure (.int .i64 0) := fun _ => rfl
theorem bl50d : ∀ ts, bLen env (50 :: ts) .emp = M.pure (.int .i64 0) := fun _ => rfl
theorem bl52a : ∀ ts id off len cap sz, bLen env (52 :: ts) (.sl id off len cap sz) = M.pure (.int .i64 (len : Nat)) := fun _ _ _ _ _ _ => rfl
theorem bl52b : ∀ ts g sz off len, bLen env (52 :: ts) (.isl g sz off len) = M.pure (.int .i64 (len : Nat)) := fun _ _ _ _ _ => rfl
theorem bl52c : ∀ ts, bLen env (52 :: ts) .nils = M.pure (.int .i64 0) := fun _ => rfl
theorem bl52d : ∀ ts, bLen env (52 :: ts) .emp = M.pure (.int .i64 0) := fun _ => rfl
theorem bl53a : ∀ ts id off len cap sz, bLen env (53 :: ts) (.sl id off len cap sz) = M.pure (.int .i64 (len : Nat)) := fun _ _ _ _ _ _ => rfl
theorem bl53b : ∀ ts g sz off len, bLen env (53 :: ts) (.isl g sz off len) = M.pure (.int .i64 (len : Nat)) := fun _ _ _ _ _ => rfl
theorem bl53c : ∀ ts, bLen env (53 :: ts) .nils = M.pure (.int .i64 0) := fun _ => rfl
theorem bl53d : ∀ ts, bLen env (53 :: ts) .emp = M.pure (.int .i64 0) := fun _ => rfl
theorem bl70a : ∀ ts id off len cap sz, bLen env (70 :: ts) (.sl id off len cap sz) = M.pure (.int .i64 (len : Nat)) := fun _ _ _ _ _ _ => rfl
theorem bl70b : ∀ ts g sz off len, bLen env (70 :: ts) (.isl g sz off len) = M.pure (.int .i64 (len : Nat)) := fun _ _ _ _ _ => rfl
theorem bl70c : ∀ ts, bLen env (70 :: ts) .nils = M.pure (.int .i64 0) := fun _ => rfl
theorem bl70d : ∀ ts, bLen env (70 :: ts) .emp = M.pure (.int .i64 0) := fun _ => rfl
theorem bl114a : ∀ ts id off len cap sz, bLen env (114 :: ts) (.sl id off len cap sz) = M.pure (.int .i64 (len : Nat)) := fun _ _ _ _ _ _ => rfl
theorem bl114b : ∀ ts g sz off len, bLen env (114 :: ts) (.isl g sz off len) = M.pure (.int .i64 (len : Nat)) := fun _ _ _ _ _ => rfl
theorem bl114c : ∀ ts, bLen env (114 :: ts) .nils = M.pure (.int .i64 0) := fun _ => rfl
theorem bl114d : ∀ ts, bLen env (114 :: ts) .emp = M.pure (.int .i64 0) := fun _ => rfl
theorem bl131r : ∀ ts v, bLen env (131 :: ts) v = M.pure (.int .i64 0) := fun _ _ => rfl
noncomputable def lp6_0 : Code := (loopsOf (Try.f6.body.getD .skip)).getD 0 .skip
noncomputable def lp9_0 : Code := (loopsOf (Try.f9.body.getD .skip)).getD 0 .skip
noncomputable def lp9_1 : Code := (loopsOf (Try.f9.body.getD .skip)).getD 1 .skip
noncomputable def lp10_0 : Code := (loopsOf (Try.f10.body.getD .skip)).getD 0 .skip
noncomputable def lp11_0 : Code := (loopsOf (Try.f11.body.getD .skip)).getD 0 .skip
noncomputable def lp13_0 : Code := (loopsOf (Try.f13.body.getD .skip)).getD 0 .skip
noncomputable def lp13_1 : Code := (loopsOf (Try.f13.body.getD .skip)).getD 1 .skip
noncomputable def lp14_0 : Code := (loopsOf (Try.f14.body.getD .skip)).getD 0 .skip
noncomputable def lp14_1 : Code := (loopsOf (Try.f14.body.getD .skip)).getD 1 .skip
noncomputable def lp14_2 : Code := (loopsOf (Try.f14.body.getD .skip)).getD 2 .skip
noncomputable def lp18_0 : Code := (loopsOf (Try.f18.body.getD .skip)).getD 0 .skip
noncomputable def lp19_0 : Code := (loopsOf (Try.f19.body.getD .skip)).getD 0 .skip
noncomputable def lp21_0 : Code := (loopsOf (Try.f21.body.getD .skip)).getD 0 .skip
noncomputable def lp22_0 : Code := (loopsOf (Try.f22.body.getD .skip)).getD 0 .skip
noncomputable def lp36_0 : Code := (loopsOf (Try.f36.body.getD .skip)).getD 0 .skip
noncomputable def lp36_1 : Code := (loopsOf (Try.f36.body.getD .skip)).getD 1 .skip
noncomputable def lp37_0 : Code := (loopsOf (Try.f37.body.getD .skip)).getD 0 .skip
noncomputable def lp39_0 : Code := (loopsOf (Try.f39.body.getD .skip)).getD 0 .skip
noncomputable def lp47_0 : Code := (loopsOf (Try.f47.body.getD .skip)).getD 0 .skip
noncomputable def lp48_0 : Code := (loopsOf (Try.f48.body.getD .skip)).getD 0 .skip
noncomputable def lp48_1 : Code := (loopsOf (Try.f48.body.getD .skip)).getD 1 .skip
noncomputable def lp50_0 : Code := (loopsOf (Try.f50.body.getD .skip)).getD 0 .skip
noncomputable def lp51_0 : Code := (loopsOf (Try.f51.body.getD .skip)).getD 0 .skip
noncomputable def lp52_0 : Code := (loopsOf (Try.f52.body.getD .skip)).getD 0 .skip
noncomputable def ra54_0 : Code := ((rangesOf (Try.f54.body.getD .skip)).getD 0 (.skip, .skip)).1
noncomputable def rb54_0 : Code := ((rangesOf (Try.f54.body.getD .skip)).getD 0 (.skip, .skip)).2
noncomputable def lp56_0 : Code := (loopsOf (Try.f56.body.getD .skip)).getD 0 .skip
noncomputable def lp69_0 : Code := (loopsOf (Try.f69.body.getD .skip)).getD 0 .skip
noncomputable def lp70_0 : Code := (loopsOf (Try.f70.body.getD .skip)).getD 0 .skip
noncomputable def ra71_0 : Code := ((rangesOf (Try.f71.body.getD .skip)).getD 0 (.skip, .skip)).1
noncomputable def rb71_0 : Code := ((rangesOf (Try.f71.body.getD .skip)).getD 0 (.skip, .skip)).2
noncomputable def lp104_0 : Code := (loopsOf (Try.f104.body.getD .skip)).getD 0 .skip
noncomputable def lp105_0 : Code := (loopsOf (Try.f105.body.getD .skip)).getD 0 .skip
noncomputable def ra107_0 : Code := ((rangesOf (Try.f107.body.getD .skip)).getD 0 (.skip, .skip)).1
noncomputable def rb107_0 : Code := ((rangesOf (Try.f107.body.getD .skip)).getD 0 (.skip, .skip)).2
noncomputable def lp110_0 : Code := (loopsOf (Try.f110.body.getD .skip)).getD 0 .skip
def tyr := (And.intro ti0 (And.intro ti1 (And.intro ti2 (And.intro ti3 (And.intro ti4 (And.intro ti5 (And.intro ti6 (And.intro ti7 (And.intro ti8 (And.intro ti9 (And.intro ti10 (And.intro ti11 (And.intro ti12 (And.intro ti13 (And.intro ti14 (And.intro ti15 (And.intro ti16 (And.intro ti17 (And.intro ti18 (And.intro ti19 (And.intro ti20 (And.intro ti21 (And.intro ti22 (And.intro ti23 (And.intro ti24 (And.intro ti25 (And.intro ti26 (And.intro ti27 (And.intro ti28 (And.intro ti29 (And.intro ti30 (And.intro ti31 (And.intro ti32 (And.intro ti33 (And.intro ti34 (And.intro ti35 (And.intro ti36 (And.intro ti37 (And.intro ti38 (And.intro ti39 (And.intro ti40 (And.intro ti41 (And.intro ti42 (And.intro ti43 (And.intro ti44 (And.intro ti45 (And.intro ti46 (And.intro ti47 (And.intro ti48 (And.intro ti49 (And.intro ti50 (And.intro ti51 (And.intro ti52 (And.intro ti53 (And.intro ti54 (And.intro ti55 (And.intro ti56 (And.intro ti57 (And.intro ti58 (And.intro ti59 (And.intro ti60 (And.intro ti61 (And.intro ti62 (And.intro ti63 (And.intro ti64 (And.intro ti65 (And.intro ti66 (And.intro ti67 (And.intro ti68 (And.intro ti69 (And.intro ti70 (And.intro ti71 (And.intro ti72 (And.intro ti73 (And.intro ti74 (And.intro ti75 (And.intro ti76 (And.intro ti77 (And.intro ti78 (And.intro ti79 (And.intro ti80 (And.intro ti81 (And.intro ti82 (And.intro ti83 (And.intro ti84 (And.intro ti85 (And.intro ti86 (And.intro ti87 (And.intro ti88 (And.intro ti89 (And.intro ti90 (And.intro ti91 (And.intro ti92 (And.intro ti93 (And.intro ti94 (And.intro ti95 (And.intro ti96 (And.intro ti97 (And.intro ti98 (And.intro ti99 (And.intro ti100 (And.intro ti101 (And.intro ti102 (And.intro ti103 (And.intro ti104 (And.intro ti105 (And.intro ti106 (And.intro ti107 (And.intro ti108 (And.intro ti109 (And.intro ti110 (And.intro ti111 (And.intro ti112 (And.intro ti113 (And.intro ti114 (And.intro ti115 (And.intro ti116 (And.intro ti117 (And.intro ti118 (And.intro ti119 (And.intro ti120 (And.intro ti121 (And.intro ti122 (And.intro ti123 (And.intro ti124 (And.intro ti125 (And.intro ti126 (And.intro ti127 (And.intro ti128 (And.intro ti129 (And.intro ti130 (And.intro ti131 (And.intro ti132 (And.intro ti133 (And.intro ti134 (And.intro ti135 (And.intro ti136 (And.intro ti137 (And.intro ti138 (And.intro ti139 (And.intro ti140 (And.intro ti141 (And.intro ti142 ti143)))))))))))))))))))))))))))))))))))))))))))))))))))))))))))))))))))))))))))))))))))))))))))))))))))))))))))))))))))))))))))))))))))))))))))))))
def blr := (And.intro bl9s (And.intro bl10s (And.intro bl11s (And.intro bl22a (And.intro bl22b (And.intro bl22c (And.intro bl22d (And.intro bl44r (And.intro bl50a (And.intro bl50b (And.intro bl50c (And.intro bl50d (And.intro bl52a (And.intro bl52b (And.intro bl52c (And.intro bl52d (And.intro bl53a (And.intro bl53b (And.intro bl53c (And.intro bl53d (And.intro bl70a (And.intro bl70b (And.intro bl70c (And.intro bl70d (And.intro bl114a (And.intro bl114b (And.intro bl114c (And.intro bl114d bl131r))))))))))))))))))))))))))))
def fgr := (And.intro fg2 (And.intro fg3 (And.intro fg4 (And.intro fg5 (And.intro fg6 (And.intro fg7 (And.intro fg8 (And.intro fg9 (And.intro fg10 (And.intro fg11 (And.intro fg12 (And.intro fg13 (And.intro fg14 (And.intro fg15 (And.intro fg16 (And.intro fg17 (And.intro fg18 (And.intro fg19 (And.intro fg20 (And.intro fg21 (And.intro fg22 (And.intro fg23 (And.intro fg24 (And.intro fg25 (And.intro fg26 (And.intro fg27 (And.intro fg28 (And.intro fg29 (And.intro fg30 (And.intro fg31 (And.intro fg32 (And.intro fg33 (And.intro fg34 (And.intro fg35 (And.intro fg36 (And.intro fg37 (And.intro fg38 (And.intro fg39 (And.intro fg40 (And.intro fg41 (And.intro fg42 (And.intro fg43 (And.intro fg44 (And.intro fg45 (And.intro fg46 (And.intro fg47 (And.intro fg48 (And.intro fg49 (And.intro fg50 (And.intro fg51 (And.intro fg52 (And.intro fg53 (And.intro fg54 (And.intro fg55 (And.intro fg56 (And.intro fg57 (And.intro fg58 (And.intro fg59 (And.intro fg60 (And.intro fg61 (And.intro fg62 (And.intro fg63 (And.intro fg64 (And.intro fg65 (And.intro fg66 (And.intro fg67 (And.intro fg68 (And.intro fg69 (And.intro fg70 (And.intro fg71 (And.intro fg72 (And.intro fg73 (And.intro fg74 (And.intro fg75 (And.intro fg76 (And.intro fg77 (And.intro fg78 (And.intro fg79 (And.intro fg80 (And.intro fg81 (And.intro fg82 (And.intro fg83 (And.intro fg84 (And.intro fg85 (And.intro fg86 (And.intro fg87 (And.intro fg88 (And.intro fg89 (And.intro fg90 (And.intro fg91 (And.intro fg92 (And.intro fg93 (And.intro fg94 (And.intro fg95 (And.intro fg96 (And.intro fg97 (And.intro fg98 (And.intro fg99 (And.intro fg100 (And.intro fg101 (And.intro fg102 (And.intro fg103 (And.intro fg104 (And.intro fg105 (And.intro fg106 (And.intro fg107 (And.intro fg108 (And.intro fg109 (And.intro fg110 (And.intro (NB 2 rfl) (And.intro (NB 3 rfl) (And.intro (NB 4 rfl) (And.intro (NB 5 rfl) (And.intro (NB 6 rfl) (And.intro (NB 7 rfl) (And.intro (NB 8 rfl) (And.intro (NB 9 rfl) (And.intro (NB 10 rfl) (And.intro (NB 11 rfl) (And.intro (NB 12 rfl) (And.intro (NB 13 rfl) (And.intro (NB 14 rfl) (And.intro (NB 15 rfl) (And.intro (NB 16 rfl) (And.intro (NB 17 rfl) (And.intro (NB 18 rfl) (And.intro (NB 19 rfl) (And.intro (NB 20 rfl) (And.intro (NB 21 rfl) (And.intro (NB 22 rfl) (And.intro (NB 23 rfl) (And.intro (NB 24 rfl) (And.intro (NB 25 rfl) (And.intro (NB 26 rfl) (And.intro (NB 27 rfl) (And.intro (NB 28 rfl) (And.intro (NB 29 rfl) (And.intro (NB 30 rfl) (And.intro (NB 31 rfl) (And.intro (NB 32 rfl) (And.intro (NB 33 rfl) (And.intro (NB 34 rfl) (And.intro (NB 35 rfl) (And.intro (NB 36 rfl) (And.intro (NB 37 rfl) (And.intro (NB 38 rfl) (And.intro (NB 39 rfl) (And.intro (NB 40 rfl) (And.intro (NB 41 rfl) (And.intro (NB 42 rfl) (And.intro (NB 43 rfl) (And.intro (NB 44 rfl) (And.intro (NB 45 rfl) (And.intro (NB 46 rfl) (And.intro (NB 47 rfl) (And.intro (NB 48 rfl) (And.intro (NB 49 rfl) (And.intro (NB 50 rfl) (And.intro (NB 51 rfl) (And.intro (NB 52 rfl) (And.intro (NB 53 rfl) (And.intro (NB 54 rfl) (And.intro (NB 55 rfl) (And.intro (NB 56 rfl) (And.intro (NB 57 rfl) (And.intro (NB 58 rfl) (And.intro (NB 59 rfl) (And.intro (NB 60 rfl) (And.intro (NB 61 rfl) (And.intro (NB 62 rfl) (And.intro (NB 63 rfl) (And.intro (NB 64 rfl) (And.intro (NB 65 rfl) (And.intro (NB 66 rfl) (And.intro (NB 67 rfl) (And.intro (NB 68 rfl) (And.intro (NB 69 rfl) (And.intro (NB 70 rfl) (And.intro (NB 71 rfl) (And.intro (NB 72 rfl) (And.intro (NB 73 rfl) (And.intro (NB 74 rfl) (And.intro (NB 75 rfl) (And.intro (NB 76 rfl) (And.intro (NB 77 rfl) (And.intro (NB 78 rfl) (And.intro (NB 79 rfl) (And.intro (NB 80 rfl) (And.intro (NB 81 rfl) (And.intro (NB 82 rfl) (And.intro (NB 83 rfl) (And.intro (NB 84 rfl) (And.intro (NB 85 rfl) (And.intro (NB 86 rfl) (And.intro (NB 87 rfl) (And.intro (NB 88 rfl) (And.intro (NB 89 rfl) (And.intro (NB 90 rfl) (And.intro (NB 91 rfl) (And.intro (NB 92 rfl) (And.intro (NB 93 rfl) (And.intro (NB 94 rfl) (And.intro (NB 95 rfl) (And.intro (NB 96 rfl) (And.intro (NB 97 rfl) (And.intro (NB 98 rfl) (And.intro (NB 99 rfl) (And.intro (NB 100 rfl) (And.intro (NB 101 rfl) (And.intro (NB 102 rfl) (And.intro (NB 103 rfl) (And.intro (NB 104 rfl) (And.intro (NB 105 rfl) (And.intro (NB 106 rfl) (And.intro (NB 107 rfl) (And.intro (NB 108 rfl) (And.intro (NB 109 rfl) (NB 110 rfl))))))))))))))))))))))))))))))))))))))))))))))))))))))))))))))))))))))))))))))))))))))))))))))))))))))))))))))))))))))))))))))))))))))))))))))))))))))))))))))))))))))))))))))))))))))))))))))))))))))))))))))))))))))))))
def hkr := (And.intro (HK 2 rfl) (And.intro (HK 3 rfl) (And.intro (HK 4 rfl) (And.intro (HK 5 rfl) (And.intro (HK 6 rfl) (And.intro (HK 7 rfl) (And.intro (HK 8 rfl) (And.intro (HK 9 rfl) (And.intro (HK 10 rfl) (And.intro (HK 11 rfl) (And.intro (HK 12 rfl) (And.intro (HK 13 rfl) (And.intro (HK 14 rfl) (And.intro (HK 15 rfl) (And.intro (HK 16 rfl) (And.intro (HK 17 rfl) (And.intro (HK 18 rfl) (And.intro (HK 19 rfl) (And.intro (HK 20 rfl) (And.intro (HK 21 rfl) (And.intro (HK 22 rfl) (And.intro (HK 23 rfl) (And.intro (HK 24 rfl) (And.intro (HK 25 rfl) (And.intro (HK 26 rfl) (And.intro (HK 27 rfl) (And.intro (HK 28 rfl) (And.intro (HK 29 rfl) (And.intro (HK 30 rfl) (And.intro (HK 31 rfl) (And.intro (HK 32 rfl) (And.intro (HK 33 rfl) (And.intro (HK 34 rfl) (And.intro (HK 35 rfl) (And.intro (HK 36 rfl) (And.intro (HK 37 rfl) (And.intro (HK 38 rfl) (And.intro (HK 39 rfl) (And.intro (HK 40 rfl) (And.intro (HK 41 rfl) (And.intro (HK 42 rfl) (And.intro (HK 43 rfl) (And.intro (HK 44 rfl) (And.intro (HK 45 rfl) (And.intro (HK 46 rfl) (And.intro (HK 47 rfl) (And.intro (HK 48 rfl) (And.intro (HK 49 rfl) (And.intro (HK 50 rfl) (And.intro (HK 51 rfl) (And.intro (HK 52 rfl) (And.intro (HK 53 rfl) (And.intro (HK 54 rfl) (And.intro (HK 55 rfl) (And.intro (HK 56 rfl) (And.intro (HK 57 rfl) (And.intro (HK 58 rfl) (And.intro (HK 59 rfl) (And.intro (HK 60 rfl) (And.intro (HK 61 rfl) (And.intro (HK 62 rfl) (And.intro (HK 63 rfl) (And.intro (HK 64 rfl) (And.intro (HK 65 rfl) (And.intro (HK 66 rfl) (And.intro (HK 67 rfl) (And.intro (HK 68 rfl) (And.intro (HK 69 rfl) (And.intro (HK 70 rfl) (And.intro (HK 71 rfl) (And.intro (HK 72 rfl) (And.intro (HK 73 rfl) (And.intro (HK 74 rfl) (And.intro (HK 75 rfl) (And.intro (HK 76 rfl) (And.intro (HK 77 rfl) (And.intro (HK 78 rfl) (And.intro (HK 79 rfl) (And.intro (HK 80 rfl) (And.intro (HK 81 rfl) (And.intro (HK 82 rfl) (And.intro (HK 83 rfl) (And.intro (HK 84 rfl) (And.intro (HK 85 rfl) (And.intro (HK 86 rfl) (And.intro (HK 87 rfl) (And.intro (HK 88 rfl) (And.intro (HK 89 rfl) (And.intro (HK 90 rfl) (And.intro (HK 91 rfl) (And.intro (HK 92 rfl) (And.intro (HK 93 rfl) (And.intro (HK 94 rfl) (And.intro (HK 95 rfl) (And.intro (HK 96 rfl) (And.intro (HK 97 rfl) (And.intro (HK 98 rfl) (And.intro (HK 99 rfl) (And.intro (HK 100 rfl) (And.intro (HK 101 rfl) (And.intro (HK 102 rfl) (And.intro (HK 103 rfl) (And.intro (HK 104 rfl) (And.intro (HK 105 rfl) (And.intro (HK 106 rfl) (And.intro (HK 107 rfl) (And.intro (HK 108 rfl) (And.intro (HK 109 rfl) (HK 110 rfl)))))))))))))))))))))))))))))))))))))))))))))))))))))))))))))))))))))))))))))))))))))))))))))))))))))))))))))
end Go.Am.Ytmoplhbncjicbaa
set_option linter.unusedSimpArgs false
set_option linter.unusedVariables false
set_option linter.defProp false
set_option maxRecDepth 10000
namespace Go.Am.Ytmoplhbncjicbaa
open Go Go.Am Go.Proofs
def b2i (b : Bool) : Int := match b with | true => 1 | false => 0
theorem f57 (h : Hp) (n : Nat) (b : Bool) : Wp (callI env (evalW env) 57 [.bool b]) h n fun v' h' n' => v' = .int .i64 (b2i b) ∧ h' = h ∧ n' = n := by
 refine wp_callI ff57 fi57 ?_
 cases b <;> simp only [fu57, Try.f57, Option.getD_some, List.replicate, fgr, Nat.reduceSub, b2i, gE]
def c57 (h : Hp) (n : Nat) (b : Bool) := opv_det (f57 h n b)
theorem f58 (h : Hp) (n : Nat) (b : Bool) : Wp (callI env (evalW env) 58 [.bool b]) h n fun v' h' n' => v' = .int .i64 (b2i b) ∧ h' = h ∧ n' = n := by
 refine wp_callI ff58 fi58 ?_
 cases b <;> simp only [fu58, Try.f58, Option.getD_some, List.replicate, fgr, Nat.reduceSub, b2i, gE]
def c58 (h : Hp) (n : Nat) (b : Bool) := opv_det (f58 h n b)
theorem f81 (h : Hp) (n : Nat) (x : Int) (h1 : -9223372036854775808 < x) (h2 : x ≤ 9223372036854775807) : Wp (callI env (evalW env) 81 [.int .i64 x]) h n fun v' h' n' => v' = .int .u64 (x.natAbs) ∧ h' = h ∧ n' = n := by
 refine wp_callI ff81 fi81 ?_
 by_cases hx : x < 0 <;> simp (disch := first | omega | exact NB _ rfl _) only [fu81, Try.f81, Option.getD_some, List.replicate, core1, tyr, fgr, execOp, opd, ofValue, putT, put, nth, forgetL, und, lenOf, bor, binInt, shiftB, intOp, wrapI, strK, intK, unOp, ended, resultOf, oneOrTup, List.cons_append, List.nil_append, List.length_cons, List.length_nil, Nat.reduceSub, decide_true, decide_false, and_true, true_and, and_self, Nat.zero_add, wp_pure, convert, convStr, isU8, hx, w64, wu64]
 all_goals congr 1; omega
def c81 (h : Hp) (n : Nat) (x : Int) (h1 : -9223372036854775808 < x) (h2 : x ≤ 9223372036854775807) := opv_det (f81 h n x h1 h2)
theorem f82 (h : Hp) (n : Nat) (x : Int) (h1 : -9223372036854775808 ≤ x) (h2 : x < 9223372036854775807) : Wp (callI env (evalW env) 82 [.int .i64 x]) h n fun v' h' n' => v' = .int .i64 (x + 1) ∧ h' = h ∧ n' = n := by
 refine wp_callI ff82 fi82 ?_
 simp (disch := first | omega | exact NB _ rfl _) only [fu82, Try.f82, Option.getD_some, List.replicate, core1, fgr, execOp, opd, ofValue, putT, put, nth, forgetL, bor, binInt, shiftB, intOp, wrapI, ended, resultOf, oneOrTup, List.cons_append, List.nil_append, List.length_cons, List.length_nil, Nat.reduceSub, decide_true, and_self, Nat.zero_add, wp_pure, w64]
def c82 (h : Hp) (n : Nat) (x : Int) (h1 : -9223372036854775808 ≤ x) (h2 : x < 9223372036854775807) := opv_det (f82 h n x h1 h2)
theorem f83 (h : Hp) (n : Nat) (x : Int) (h1 : -9223372036854775808 < x) (h2 : x ≤ 9223372036854775807) : Wp (callI env (evalW env) 83 [.int .i64 x]) h n fun v' h' n' => v' = .int .i64 (x - 1) ∧ h' = h ∧ n' = n := by
 refine wp_callI ff83 fi83 ?_
 simp (disch := first | omega | exact NB _ rfl _) only [fu83, Try.f83, Option.getD_some, List.replicate, core1, fgr, execOp, opd, ofValue, putT, put, nth, forgetL, bor, binInt, shiftB, intOp, wrapI, ended, resultOf, oneOrTup, List.cons_append, List.nil_append, List.length_cons, List.length_nil, Nat.reduceSub, decide_true, and_self, Nat.zero_add, wp_pure, w64]
def c83 (h : Hp) (n : Nat) (x : Int) (h1 : -9223372036854775808 < x) (h2 : x ≤ 9223372036854775807) := opv_det (f83 h n x h1 h2)
theorem f84 (h : Hp) (n : Nat) (x : Int) (h1 : -9223372036854775808 < x) (h2 : x ≤ 9223372036854775807) : Wp (callI env (evalW env) 84 [.int .i64 x]) h n fun v' h' n' => v' = .int .i64 (-x) ∧ h' = h ∧ n' = n := by
 refine wp_callI ff84 fi84 ?_
 simp (disch := first | omega | exact NB _ rfl _) only [fu84, Try.f84, Option.getD_some, List.replicate, core1, fgr, execOp, opd, ofValue, putT, put, nth, forgetL, wrapI, unOp, ended, resultOf, oneOrTup, List.cons_append, List.nil_append, List.length_cons, List.length_nil, Nat.reduceSub, and_self, Nat.zero_add, wp_pure, w64, Int.zero_sub]
def c84 (h : Hp) (n : Nat) (x : Int) (h1 : -9223372036854775808 < x) (h2 : x ≤ 9223372036854775807) := opv_det (f84 h n x h1 h2)
theorem f85 (h : Hp) (n : Nat) (x : Int) (h1 : -9223372036854775808 < x) (h2 : x ≤ 9223372036854775807) : Wp (callI env (evalW env) 85 [.int .i64 x]) h n fun v' h' n' => v' = .int .i64 (x.natAbs) ∧ h' = h ∧ n' = n := by
 refine wp_callI ff85 fi85 ?_
 simp (disch := first | omega | exact NB _ rfl _) only [fu85, Try.f85, Option.getD_some, List.replicate, core1, tyr, fgr, hkr, execOp, opd, opds, ofValue, putT, put, nth, forgetL, doCall, callV_func, und, lenOf, wrapI, strK, intK, ended, resultOf, oneOrTup, List.cons_append, List.nil_append, List.append_nil, List.length_cons, List.length_nil, Nat.reduceSub, and_self, Nat.zero_add, wp_pure, convert, convStr, isU8, w64, c81]
def c85 (h : Hp) (n : Nat) (x : Int) (h1 : -9223372036854775808 < x) (h2 : x ≤ 9223372036854775807) := opv_det (f85 h n x h1 h2)
theorem f86 (h : Hp) (n : Nat) (x : Int) : Wp (callI env (evalW env) 86 [.int .i64 x]) h n fun v' h' n' => v' = .int .i64 (b2i (x == 0)) ∧ h' = h ∧ n' = n := by
 refine wp_callI ff86 fi86 ?_
 simp only [fu86, Try.f86, Option.getD_some, List.replicate, fgr, hkr, bor, Nat.reduceSub, c57, gE]
def c86 (h : Hp) (n : Nat) (x : Int) := opv_det (f86 h n x)
theorem f87 (h : Hp) (n : Nat) (x : Int) : Wp (callI env (evalW env) 87 [.int .i64 x]) h n fun v' h' n' => v' = .int .i64 (b2i (x != 0)) ∧ h' = h ∧ n' = n := by
 refine wp_callI ff87 fi87 ?_
 simp only [fu87, Try.f87, Option.getD_some, List.replicate, fgr, hkr, bor, Nat.reduceSub, decide_not, c57, gE]
def c87 (h : Hp) (n : Nat) (x : Int) := opv_det (f87 h n x)
theorem f88 (h : Hp) (n : Nat) (x y : Int) (h1 : -9223372036854775808 ≤ x + y) (h2 : x + y ≤ 9223372036854775807) : Wp (callI env (evalW env) 88 [.int .i64 x, .int .i64 y]) h n fun v' h' n' => v' = .int .i64 (x + y) ∧ h' = h ∧ n' = n := by
 refine wp_callI ff88 fi88 ?_
 simp (disch := first | omega | exact NB _ rfl _) only [fu88, Try.f88, Option.getD_some, List.replicate, core1, fgr, execOp, opd, ofValue, putT, put, nth, forgetL, bor, binInt, shiftB, intOp, wrapI, ended, resultOf, oneOrTup, List.cons_append, List.nil_append, List.length_cons, List.length_nil, Nat.reduceAdd, Nat.reduceSub, decide_true, and_self, Nat.zero_add, wp_pure, w64]
def c88 (h : Hp) (n : Nat) (x y : Int) (h1 : -9223372036854775808 ≤ x + y) (h2 : x + y ≤ 9223372036854775807) := opv_det (f88 h n x y h1 h2)
theorem f89 (h : Hp) (n : Nat) (x y : Int) (h1 : -9223372036854775808 ≤ x - y) (h2 : x - y ≤ 9223372036854775807) : Wp (callI env (evalW env) 89 [.int .i64 x, .int .i64 y]) h n fun v' h' n' => v' = .int .i64 (x - y) ∧ h' = h ∧ n' = n := by
 refine wp_callI ff89 fi89 ?_
 simp (disch := first | omega | exact NB _ rfl _) only [fu89, Try.f89, Option.getD_some, List.replicate, core1, fgr, execOp, opd, ofValue, putT, put, nth, forgetL, bor, binInt, shiftB, intOp, wrapI, ended, resultOf, oneOrTup, List.cons_append, List.nil_append, List.length_cons, List.length_nil, Nat.reduceAdd, Nat.reduceSub, decide_true, and_self, Nat.zero_add, wp_pure, w64]
def c89 (h : Hp) (n : Nat) (x y : Int) (h1 : -9223372036854775808 ≤ x - y) (h2 : x - y ≤ 9223372036854775807) := opv_det (f89 h n x y h1 h2)
theorem b2i_and (a b : Bool) : IntKind.i64.wrap (((BitVec.ofInt IntKind.i64.bits (b2i a)) &&& (BitVec.ofInt IntKind.i64.bits (b2i b))).toNat : Int) = b2i (a && b) := by cases a <;> cases b <;> decide
theorem b2i_or (a b : Bool) : IntKind.i64.wrap (((BitVec.ofInt IntKind.i64.bits (b2i a)) ||| (BitVec.ofInt IntKind.i64.bits (b2i b))).toNat : Int) = b2i (a || b) := by cases a <;> cases b <;> decide
theorem f90 (h : Hp) (n : Nat) (x y : Int) : Wp (callI env (evalW env) 90 [.int .i64 x, .int .i64 y]) h n fun v' h' n' => v' = .int .i64 (b2i (x != 0 && y != 0)) ∧ h' = h ∧ n' = n := by
 refine wp_callI ff90 fi90 ?_
 simp only [fu90, Try.f90, Option.getD_some, List.replicate, fgr, hkr, bor, wrapI, Nat.reduceAdd, Nat.reduceSub, decide_not, c87, b2i_and, gE]
def c90 (h : Hp) (n : Nat) (x y : Int) := opv_det (f90 h n x y)
theorem f91 (h : Hp) (n : Nat) (x y : Int) : Wp (callI env (evalW env) 91 [.int .i64 x, .int .i64 y]) h n fun v' h' n' => v' = .int .i64 (b2i (x != 0 || y != 0)) ∧ h' = h ∧ n' = n := by
 refine wp_callI ff91 fi91 ?_
 simp only [fu91, Try.f91, Option.getD_some, List.replicate, fgr, hkr, bor, wrapI, Nat.reduceAdd, Nat.reduceSub, decide_not, c87, b2i_or, gE]
def c91 (h : Hp) (n : Nat) (x y : Int) := opv_det (f91 h n x y)
theorem f92 (h : Hp) (n : Nat) (x y : Int) : Wp (callI env (evalW env) 92 [.int .i64 x, .int .i64 y]) h n fun v' h' n' => v' = .int .i64 (b2i (x == y)) ∧ h' = h ∧ n' = n := by
 refine wp_callI ff92 fi92 ?_
 simp only [fu92, Try.f92, Option.getD_some, List.replicate, fgr, hkr, bor, Nat.reduceAdd, Nat.reduceSub, c57, gE]
def c92 (h : Hp) (n : Nat) (x y : Int) := opv_det (f92 h n x y)
theorem f93 (h : Hp) (n : Nat) (x y : Int) : Wp (callI env (evalW env) 93 [.int .i64 x, .int .i64 y]) h n fun v' h' n' => v' = .int .i64 (b2i (x != y)) ∧ h' = h ∧ n' = n := by
 refine wp_callI ff93 fi93 ?_
 simp only [fu93, Try.f93, Option.getD_some, List.replicate, fgr, hkr, bor, Nat.reduceAdd, Nat.reduceSub, decide_not, c57, gE]
def c93 (h : Hp) (n : Nat) (x y : Int) := opv_det (f93 h n x y)
theorem f94 (h : Hp) (n : Nat) (x y : Int) : Wp (callI env (evalW env) 94 [.int .i64 x, .int .i64 y]) h n fun v' h' n' => v' = .int .i64 (b2i (decide (x < y))) ∧ h' = h ∧ n' = n := by
 refine wp_callI ff94 fi94 ?_
 simp only [fu94, Try.f94, Option.getD_some, List.replicate, fgr, hkr, bor, Nat.reduceAdd, Nat.reduceSub, c57, gE]
def c94 (h : Hp) (n : Nat) (x y : Int) := opv_det (f94 h n x y)
theorem f95 (h : Hp) (n : Nat) (x y : Int) : Wp (callI env (evalW env) 95 [.int .i64 x, .int .i64 y]) h n fun v' h' n' => v' = .int .i64 (b2i (decide (x > y))) ∧ h' = h ∧ n' = n := by
 refine wp_callI ff95 fi95 ?_
 simp only [fu95, Try.f95, Option.getD_some, List.replicate, fgr, hkr, bor, Nat.reduceAdd, Nat.reduceSub, gt_iff_lt, c57, gE]
def c95 (h : Hp) (n : Nat) (x y : Int) := opv_det (f95 h n x y)
theorem f96 (h : Hp) (n : Nat) (x y : Int) : Wp (callI env (evalW env) 96 [.int .i64 x, .int .i64 y]) h n fun v' h' n' => v' = .int .i64 (b2i (decide (x ≤ y))) ∧ h' = h ∧ n' = n := by
 refine wp_callI ff96 fi96 ?_
 simp only [fu96, Try.f96, Option.getD_some, List.replicate, fgr, hkr, bor, Nat.reduceAdd, Nat.reduceSub, c57, gE]
def c96 (h : Hp) (n : Nat) (x y : Int) := opv_det (f96 h n x y)
theorem f97 (h : Hp) (n : Nat) (x y : Int) : Wp (callI env (evalW env) 97 [.int .i64 x, .int .i64 y]) h n fun v' h' n' => v' = .int .i64 (b2i (decide (x ≥ y))) ∧ h' = h ∧ n' = n := by
 refine wp_callI ff97 fi97 ?_
 simp only [fu97, Try.f97, Option.getD_some, List.replicate, fgr, hkr, bor, Nat.reduceAdd, Nat.reduceSub, ge_iff_le, c57, gE]
def c97 (h : Hp) (n : Nat) (x y : Int) := opv_det (f97 h n x y)
theorem f98 (h : Hp) (n : Nat) (x y : Int) : Wp (callI env (evalW env) 98 [.int .i64 x, .int .i64 y]) h n fun v' h' n' => v' = .int .i64 (if y < x then y else x) ∧ h' = h ∧ n' = n := by
 refine wp_callI ff98 fi98 ?_
 simp only [fu98, Try.f98, Option.getD_some, List.replicate, fgr, builtin, foldM2, min2, Nat.reduceAdd, Nat.reduceSub, gE]
def c98 (h : Hp) (n : Nat) (x y : Int) := opv_det (f98 h n x y)
theorem f99 (h : Hp) (n : Nat) (x y : Int) : Wp (callI env (evalW env) 99 [.int .i64 x, .int .i64 y]) h n fun v' h' n' => v' = .int .i64 (if x < y then y else x) ∧ h' = h ∧ n' = n := by
 refine wp_callI ff99 fi99 ?_
 simp only [fu99, Try.f99, Option.getD_some, List.replicate, fgr, builtin, foldM2, max2, Nat.reduceAdd, Nat.reduceSub, gE]
def c99 (h : Hp) (n : Nat) (x y : Int) := opv_det (f99 h n x y)
def may (x : Int) : Bool := decide (x ≥ -2147483647) && decide (x ≤ 2147483647)
theorem f60 (h : Hp) (n : Nat) (x : Int) : Wp (callI env (evalW env) 60 [.int .i64 x]) h n fun v' h' n' => v' = .bool (may x) ∧ h' = h ∧ n' = n := by
 refine wp_callI ff60 fi60 ?_
 by_cases h1 : x ≥ -2147483647 <;> simp only [fu60, Try.f60, Option.getD_some, List.replicate, fgr, bor, doPick, Nat.reduceSub, Int.reduceNeg, ge_iff_le, h1, may, gE]
def c60 (h : Hp) (n : Nat) (x : Int) := opv_det (f60 h n x)
theorem f61 (h : Hp) (n : Nat) (x : Int) : Wp (callI env (evalW env) 61 [.int .i64 x]) h n fun v' h' n' => v' = .bool (may x) ∧ h' = h ∧ n' = n := by
 refine wp_callI ff61 fi61 ?_
 by_cases h1 : x ≥ -2147483647 <;> simp only [fu61, Try.f61, Option.getD_some, List.replicate, fgr, bor, doPick, Nat.reduceSub, Int.reduceNeg, ge_iff_le, h1, may, gE]
def c61 (h : Hp) (n : Nat) (x : Int) := opv_det (f61 h n x)
def onesF (c : Int) : AVal :=
 if c = 139 then .fn (.func 82) [] [] else if c = 140 then .fn (.func 83) [] [] else if c = 143 then .fn (.func 84) [] [] else if c = 144 then .fn (.func 85) [] [] else
 if c = 145 then .fn (.func 86) [] [] else if c = 146 then .fn (.func 87) [] [] else .nilf
theorem f59 (h : Hp) (n : Nat) (c : Int) : Wp (callI env (evalW env) 59 [.int .u8 c]) h n fun v' h' n' => v' = onesF c ∧ h' = h ∧ n' = n := by
 refine wp_callI ff59 fi59 ?_
 unfold onesF
 by_cases e139 : c = 139
 ·simp only [fu59, Try.f59, Option.getD_some, List.replicate, fgr, bor, Nat.reduceSub, ↓reduceIte, *, gE]
 by_cases e140 : c = 140
 ·simp only [fu59, Try.f59, Option.getD_some, List.replicate, fgr, bor, Nat.reduceSub, ↓reduceIte, Int.reduceEq, *, gE]
 by_cases e143 : c = 143
 ·simp only [fu59, Try.f59, Option.getD_some, List.replicate, fgr, bor, Nat.reduceSub, ↓reduceIte, Int.reduceEq, *, gE]
 by_cases e144 : c = 144
 ·simp only [fu59, Try.f59, Option.getD_some, List.replicate, fgr, bor, Nat.reduceSub, ↓reduceIte, Int.reduceEq, *, gE]
 by_cases e145 : c = 145
 ·simp only [fu59, Try.f59, Option.getD_some, List.replicate, fgr, bor, Nat.reduceSub, ↓reduceIte, Int.reduceEq, *, gE]
 by_cases e146 : c = 146
 ·simp only [fu59, Try.f59, Option.getD_some, List.replicate, fgr, bor, Nat.reduceSub, ↓reduceIte, Int.reduceEq, *, gE]
 simp only [fu59, Try.f59, Option.getD_some, List.replicate, fgr, bor, Nat.reduceSub, ↓reduceIte, *, gE]
def c59 (h : Hp) (n : Nat) (c : Int) := opv_det (f59 h n c)
def twosF (c : Int) : AVal :=
 if c = 147 then .fn (.func 88) [] [] else if c = 148 then .fn (.func 89) [] [] else if c = 154 then .fn (.func 90) [] [] else if c = 155 then .fn (.func 91) [] [] else
 if c = 156 then .fn (.func 92) [] [] else if c = 157 then .fn (.func 92) [] [] else if c = 158 then .fn (.func 93) [] [] else if c = 159 then .fn (.func 94) [] [] else
 if c = 160 then .fn (.func 95) [] [] else if c = 161 then .fn (.func 96) [] [] else if c = 162 then .fn (.func 97) [] [] else if c = 163 then .fn (.func 98) [] [] else
 if c = 164 then .fn (.func 99) [] [] else .nilf
theorem f62 (h : Hp) (n : Nat) (c : Int) : Wp (callI env (evalW env) 62 [.int .u8 c]) h n fun v' h' n' => v' = twosF c ∧ h' = h ∧ n' = n := by
 refine wp_callI ff62 fi62 ?_
 unfold twosF
 by_cases e147 : c = 147
 ·simp only [fu62, Try.f62, Option.getD_some, List.replicate, fgr, bor, Nat.reduceSub, ↓reduceIte, *, gE]
 by_cases e148 : c = 148
 ·simp only [fu62, Try.f62, Option.getD_some, List.replicate, fgr, bor, Nat.reduceSub, ↓reduceIte, Int.reduceEq, *, gE]
 by_cases e154 : c = 154
 ·simp only [fu62, Try.f62, Option.getD_some, List.replicate, fgr, bor, Nat.reduceSub, ↓reduceIte, Int.reduceEq, *, gE]
 by_cases e155 : c = 155
 ·simp only [fu62, Try.f62, Option.getD_some, List.replicate, fgr, bor, Nat.reduceSub, ↓reduceIte, Int.reduceEq, *, gE]
 by_cases e156 : c = 156
 ·simp only [fu62, Try.f62, Option.getD_some, List.replicate, fgr, bor, Nat.reduceSub, ↓reduceIte, Int.reduceEq, *, gE]
 by_cases e157 : c = 157
 ·simp only [fu62, Try.f62, Option.getD_some, List.replicate, fgr, bor, Nat.reduceSub, ↓reduceIte, Int.reduceEq, *, gE]
 by_cases e158 : c = 158
 ·simp only [fu62, Try.f62, Option.getD_some, List.replicate, fgr, bor, Nat.reduceSub, ↓reduceIte, Int.reduceEq, *, gE]
 by_cases e159 : c = 159
 ·simp only [fu62, Try.f62, Option.getD_some, List.replicate, fgr, bor, Nat.reduceSub, ↓reduceIte, Int.reduceEq, *, gE]
 by_cases e160 : c = 160
 ·simp only [fu62, Try.f62, Option.getD_some, List.replicate, fgr, bor, Nat.reduceSub, ↓reduceIte, Int.reduceEq, *, gE]
 by_cases e161 : c = 161
 ·simp only [fu62, Try.f62, Option.getD_some, List.replicate, fgr, bor, Nat.reduceSub, ↓reduceIte, Int.reduceEq, *, gE]
 by_cases e162 : c = 162
 ·simp only [fu62, Try.f62, Option.getD_some, List.replicate, fgr, bor, Nat.reduceSub, ↓reduceIte, Int.reduceEq, *, gE]
 by_cases e163 : c = 163
 ·simp only [fu62, Try.f62, Option.getD_some, List.replicate, fgr, bor, Nat.reduceSub, ↓reduceIte, Int.reduceEq, *, gE]
 by_cases e164 : c = 164
 ·simp only [fu62, Try.f62, Option.getD_some, List.replicate, fgr, bor, Nat.reduceSub, ↓reduceIte, Int.reduceEq, *, gE]
 simp only [fu62, Try.f62, Option.getD_some, List.replicate, fgr, bor, Nat.reduceSub, ↓reduceIte, *, gE]
def c62 (h : Hp) (n : Nat) (c : Int) := opv_det (f62 h n c)
def oneV (c x : Int) : Int × Int :=
 if c = 139 ∨ c = 140 ∨ c = 143 ∨ c = 144 ∨ c = 145 ∨ c = 146 then
  if may x = true then
   (if c = 139 then x + 1 else if c = 140 then x - 1 else if c = 143 then -x else if c = 144 then x.natAbs else if c = 145 then b2i (decide (x = 0)) else b2i (decide (¬ x = 0)), 0)
  else (0, 110)
 else (0, 2)
theorem may_t {x : Int} (h : may x = true) : -2147483647 ≤ x ∧ x ≤ 2147483647 := by
 unfold may at h; simpa using h
theorem f25 (h : Hp) (n : Nat) (c x : Int) : Wp (callI env (evalW env) 25 [.int .u8 c, .int .i64 x]) h n fun v' h' n' => v' = .tup [.int .i64 (oneV c x).1, .int .i64 (oneV c x).2] ∧ h' = h ∧ n' = n := by
 refine wp_callI ff25 fi25 ?_
 unfold oneV
 by_cases hm : may x = true
 ·have hm1 := may_t hm
  by_cases e139 : c = 139
  ·simp (disch := first | omega | exact NB _ rfl _) only [fu25, Try.f25, Option.getD_some, List.replicate, core1, tyr, fgr, hkr, execOp, opd, opds, ofValue, putT, put, nth, forgetL, doCall, callV_func, und, bor, binOther, strK, aggK, unOp, ended, resultOf, oneOrTup, equalTop, equal, nilFn, nilPtr, boolOf, List.cons_append, List.nil_append, List.append_nil, List.length_cons, List.length_nil, Nat.reduceAdd, Nat.reduceSub, ↓reduceIte, Int.reduceEq, Bool.not_true, Bool.and_true, Bool.or_true, and_self, Nat.zero_add, wp_pure, c59, c60, onesF, c82, *, or_false]
  by_cases e140 : c = 140
  ·simp (disch := first | omega | exact NB _ rfl _) only [fu25, Try.f25, Option.getD_some, List.replicate, core1, tyr, fgr, hkr, execOp, opd, opds, ofValue, putT, put, nth, forgetL, doCall, callV_func, und, bor, binOther, strK, aggK, unOp, ended, resultOf, oneOrTup, equalTop, equal, nilFn, nilPtr, boolOf, List.cons_append, List.nil_append, List.append_nil, List.length_cons, List.length_nil, Nat.reduceAdd, Nat.reduceSub, ↓reduceIte, Int.reduceEq, Bool.not_true, Bool.and_true, Bool.or_true, and_self, Nat.zero_add, wp_pure, c59, c60, onesF, c83, *, or_true, or_false]
  by_cases e143 : c = 143
  ·simp (disch := first | omega | exact NB _ rfl _) only [fu25, Try.f25, Option.getD_some, List.replicate, core1, tyr, fgr, hkr, execOp, opd, opds, ofValue, putT, put, nth, forgetL, doCall, callV_func, und, bor, binOther, strK, aggK, unOp, ended, resultOf, oneOrTup, equalTop, equal, nilFn, nilPtr, boolOf, List.cons_append, List.nil_append, List.append_nil, List.length_cons, List.length_nil, Nat.reduceAdd, Nat.reduceSub, ↓reduceIte, Int.reduceEq, Bool.not_true, Bool.and_true, Bool.or_true, and_self, Nat.zero_add, wp_pure, c59, c60, onesF, c84, *, or_true, or_false]
  by_cases e144 : c = 144
  ·simp (disch := first | omega | exact NB _ rfl _) only [fu25, Try.f25, Option.getD_some, List.replicate, core1, tyr, fgr, hkr, execOp, opd, opds, ofValue, putT, put, nth, forgetL, doCall, callV_func, und, bor, binOther, strK, aggK, unOp, ended, resultOf, oneOrTup, equalTop, equal, nilFn, nilPtr, boolOf, List.cons_append, List.nil_append, List.append_nil, List.length_cons, List.length_nil, Nat.reduceAdd, Nat.reduceSub, ↓reduceIte, Int.reduceEq, Bool.not_true, Bool.and_true, Bool.or_true, and_self, Nat.zero_add, wp_pure, c59, c60, onesF, c85, *, or_true, or_false]
  by_cases e145 : c = 145
  ·simp (disch := first | omega | exact NB _ rfl _) only [fu25, Try.f25, Option.getD_some, List.replicate, core1, tyr, fgr, hkr, execOp, opd, opds, ofValue, putT, put, nth, forgetL, doCall, callV_func, und, bor, binOther, strK, aggK, unOp, ended, resultOf, oneOrTup, equalTop, equal, nilFn, nilPtr, boolOf, List.cons_append, List.nil_append, List.append_nil, List.length_cons, List.length_nil, Nat.reduceAdd, Nat.reduceSub, int_beq, ↓reduceIte, Int.reduceEq, Bool.not_true, Bool.and_true, Bool.or_true, and_self, Nat.zero_add, wp_pure, c59, c60, onesF, c86, *, or_true, or_false]
  by_cases e146 : c = 146
  ·simp (disch := first | omega | exact NB _ rfl _) only [fu25, Try.f25, Option.getD_some, List.replicate, core1, tyr, fgr, hkr, execOp, opd, opds, ofValue, putT, put, nth, forgetL, doCall, callV_func, und, bor, binOther, strK, aggK, unOp, ended, resultOf, oneOrTup, equalTop, equal, nilFn, nilPtr, boolOf, List.cons_append, List.nil_append, List.append_nil, List.length_cons, List.length_nil, Nat.reduceAdd, Nat.reduceSub, int_bne, ↓reduceIte, Int.reduceEq, decide_not, Bool.not_true, Bool.and_true, Bool.or_true, and_self, Nat.zero_add, wp_pure, c59, c60, onesF, c87, *, or_true]
  simp (disch := first | omega | exact NB _ rfl _) only [fu25, Try.f25, Option.getD_some, List.replicate, core1, tyr, fgr, hkr, execOp, opd, opds, ofValue, putT, put, nth, forgetL, doCall, callV_func, und, bor, binOther, strK, aggK, ended, resultOf, oneOrTup, equalTop, equal, nilFn, nilPtr, boolOf, List.cons_append, List.nil_append, List.append_nil, List.length_cons, List.length_nil, Nat.reduceAdd, Nat.reduceSub, ↓reduceIte, Bool.and_true, Bool.or_true, and_self, Nat.zero_add, wp_pure, c59, onesF, *, or_false]
 ·rw [Bool.not_eq_true] at hm
  by_cases e139 : c = 139
  ·simp (disch := first | omega | exact NB _ rfl _) only [fu25, Try.f25, Option.getD_some, List.replicate, core1, tyr, fgr, hkr, execOp, opd, opds, ofValue, putT, put, nth, forgetL, doCall, callV_func, und, bor, binOther, strK, aggK, unOp, ended, resultOf, oneOrTup, equalTop, equal, nilFn, nilPtr, boolOf, List.cons_append, List.nil_append, List.append_nil, List.length_cons, List.length_nil, Nat.reduceAdd, Nat.reduceSub, ↓reduceIte, Int.reduceEq, Bool.not_false, Bool.and_true, Bool.or_true, and_self, Nat.zero_add, wp_pure, c59, c60, onesF, *, or_false, Bool.false_eq_true]
  by_cases e140 : c = 140
  ·simp (disch := first | omega | exact NB _ rfl _) only [fu25, Try.f25, Option.getD_some, List.replicate, core1, tyr, fgr, hkr, execOp, opd, opds, ofValue, putT, put, nth, forgetL, doCall, callV_func, und, bor, binOther, strK, aggK, unOp, ended, resultOf, oneOrTup, equalTop, equal, nilFn, nilPtr, boolOf, List.cons_append, List.nil_append, List.append_nil, List.length_cons, List.length_nil, Nat.reduceAdd, Nat.reduceSub, ↓reduceIte, Int.reduceEq, Bool.not_false, Bool.and_true, Bool.or_true, and_self, Nat.zero_add, wp_pure, c59, c60, onesF, *, or_true, or_false, Bool.false_eq_true]
  by_cases e143 : c = 143
  ·simp (disch := first | omega | exact NB _ rfl _) only [fu25, Try.f25, Option.getD_some, List.replicate, core1, tyr, fgr, hkr, execOp, opd, opds, ofValue, putT, put, nth, forgetL, doCall, callV_func, und, bor, binOther, strK, aggK, unOp, ended, resultOf, oneOrTup, equalTop, equal, nilFn, nilPtr, boolOf, List.cons_append, List.nil_append, List.append_nil, List.length_cons, List.length_nil, Nat.reduceAdd, Nat.reduceSub, ↓reduceIte, Int.reduceEq, Bool.not_false, Bool.and_true, Bool.or_true, and_self, Nat.zero_add, wp_pure, c59, c60, onesF, *, or_true, or_false, Bool.false_eq_true]
  by_cases e144 : c = 144
  ·simp (disch := first | omega | exact NB _ rfl _) only [fu25, Try.f25, Option.getD_some, List.replicate, core1, tyr, fgr, hkr, execOp, opd, opds, ofValue, putT, put, nth, forgetL, doCall, callV_func, und, bor, binOther, strK, aggK, unOp, ended, resultOf, oneOrTup, equalTop, equal, nilFn, nilPtr, boolOf, List.cons_append, List.nil_append, List.append_nil, List.length_cons, List.length_nil, Nat.reduceAdd, Nat.reduceSub, ↓reduceIte, Int.reduceEq, Bool.not_false, Bool.and_true, Bool.or_true, and_self, Nat.zero_add, wp_pure, c59, c60, onesF, *, or_true, or_false, Bool.false_eq_true]
  by_cases e145 : c = 145
  ·simp (disch := first | omega | exact NB _ rfl _) only [fu25, Try.f25, Option.getD_some, List.replicate, core1, tyr, fgr, hkr, execOp, opd, opds, ofValue, putT, put, nth, forgetL, doCall, callV_func, und, bor, binOther, strK, aggK, unOp, ended, resultOf, oneOrTup, equalTop, equal, nilFn, nilPtr, boolOf, List.cons_append, List.nil_append, List.append_nil, List.length_cons, List.length_nil, Nat.reduceAdd, Nat.reduceSub, ↓reduceIte, Int.reduceEq, Bool.not_false, Bool.and_true, Bool.or_true, and_self, Nat.zero_add, wp_pure, c59, c60, onesF, *, or_true, or_false, Bool.false_eq_true]
  by_cases e146 : c = 146
  ·simp (disch := first | omega | exact NB _ rfl _) only [fu25, Try.f25, Option.getD_some, List.replicate, core1, tyr, fgr, hkr, execOp, opd, opds, ofValue, putT, put, nth, forgetL, doCall, callV_func, und, bor, binOther, strK, aggK, unOp, ended, resultOf, oneOrTup, equalTop, equal, nilFn, nilPtr, boolOf, List.cons_append, List.nil_append, List.append_nil, List.length_cons, List.length_nil, Nat.reduceAdd, Nat.reduceSub, ↓reduceIte, Int.reduceEq, Bool.not_false, Bool.and_true, Bool.or_true, and_self, Nat.zero_add, wp_pure, c59, c60, onesF, *, or_true, Bool.false_eq_true]
  simp (disch := first | omega | exact NB _ rfl _) only [fu25, Try.f25, Option.getD_some, List.replicate, core1, tyr, fgr, hkr, execOp, opd, opds, ofValue, putT, put, nth, forgetL, doCall, callV_func, und, bor, binOther, strK, aggK, ended, resultOf, oneOrTup, equalTop, equal, nilFn, nilPtr, boolOf, List.cons_append, List.nil_append, List.append_nil, List.length_cons, List.length_nil, Nat.reduceAdd, Nat.reduceSub, ↓reduceIte, Bool.and_true, Bool.or_true, and_self, Nat.zero_add, wp_pure, c59, onesF, *, or_false]
def c25 (h : Hp) (n : Nat) (c x : Int) := opv_det (f25 h n c x)
def twoV (c a b : Int) : Int :=
 if c = 147 then a + b else if c = 148 then a - b else if c = 154 then b2i (decide (¬ a = 0) && decide (¬ b = 0)) else if c = 155 then b2i (decide (¬ a = 0) || decide (¬ b = 0)) else
 if c = 156 then b2i (decide (a = b)) else if c = 157 then b2i (decide (a = b)) else if c = 158 then b2i (decide (¬ a = b)) else if c = 159 then b2i (decide (a < b)) else
 if c = 160 then b2i (decide (b < a)) else if c = 161 then b2i (decide (a ≤ b)) else if c = 162 then b2i (decide (b ≤ a)) else if c = 163 then (if b < a then b else a) else if a < b then b else a
def isTwo (c : Int) : Prop := c = 147 ∨ c = 148 ∨ c = 154 ∨ c = 155 ∨ c = 156 ∨ c = 157 ∨ c = 158 ∨ c = 159 ∨ c = 160 ∨ c = 161 ∨ c = 162 ∨ c = 163 ∨ c = 164
instance (c : Int) : Decidable (isTwo c) := by unfold isTwo; infer_instance
def twoR (c a b : Int) : Int × Int :=
 if isTwo c then (if may a = true then (if may b = true then (twoV c a b, 0) else (0, 110)) else (0, 110)) else (0, 2)
theorem f27 (h : Hp) (n : Nat) (c a b : Int) : Wp (callI env (evalW env) 27 [.int .u8 c, .int .i64 a, .int .i64 b]) h n fun v' h' n' => v' = .tup [.int .i64 (twoR c a b).1, .int .i64 (twoR c a b).2] ∧ h' = h ∧ n' = n := by
 refine wp_callI ff27 fi27 ?_
 unfold twoR isTwo twoV
 by_cases ha : may a = true
 ·by_cases hb : may b = true
  ·have ha1 := may_t ha
   have hb1 := may_t hb
   by_cases e147 : c = 147
   ·simp (disch := first | omega | exact NB _ rfl _) only [fu27, Try.f27, Option.getD_some, List.replicate, core1, tyr, fgr, hkr, execOp, opd, opds, ofValue, putT, put, nth, forgetL, doCall, callV_func, und, bor, binOther, strK, aggK, unOp, doPick, branch, ended, resultOf, oneOrTup, equalTop, equal, nilFn, nilPtr, boolOf, List.getElem?_cons_succ, List.getElem?_cons_zero, List.cons_append, List.nil_append, List.append_nil, List.length_cons, List.length_nil, Nat.reduceAdd, Nat.reduceSub, ↓reduceIte, Int.reduceEq, Bool.not_true, Bool.and_true, Bool.or_true, and_self, Nat.zero_add, wp_pure, c62, c60, twosF, c88, *, or_false]
   by_cases e148 : c = 148
   ·simp (disch := first | omega | exact NB _ rfl _) only [fu27, Try.f27, Option.getD_some, List.replicate, core1, tyr, fgr, hkr, execOp, opd, opds, ofValue, putT, put, nth, forgetL, doCall, callV_func, und, bor, binOther, strK, aggK, unOp, doPick, branch, ended, resultOf, oneOrTup, equalTop, equal, nilFn, nilPtr, boolOf, List.getElem?_cons_succ, List.getElem?_cons_zero, List.cons_append, List.nil_append, List.append_nil, List.length_cons, List.length_nil, Nat.reduceAdd, Nat.reduceSub, ↓reduceIte, Int.reduceEq, Bool.not_true, Bool.and_true, Bool.or_true, and_self, Nat.zero_add, wp_pure, c62, c60, twosF, c89, *, or_true, or_false]
   by_cases e154 : c = 154
   ·simp (disch := first | omega | exact NB _ rfl _) only [fu27, Try.f27, Option.getD_some, List.replicate, core1, tyr, fgr, hkr, execOp, opd, opds, ofValue, putT, put, nth, forgetL, doCall, callV_func, und, bor, binOther, strK, aggK, unOp, doPick, branch, ended, resultOf, oneOrTup, equalTop, equal, nilFn, nilPtr, boolOf, List.getElem?_cons_succ, List.getElem?_cons_zero, List.cons_append, List.nil_append, List.append_nil, List.length_cons, List.length_nil, Nat.reduceAdd, Nat.reduceSub, int_bne, ↓reduceIte, Int.reduceEq, decide_not, Bool.not_true, Bool.and_true, Bool.or_true, and_self, Nat.zero_add, wp_pure, c62, c60, twosF, c90, *, or_true, or_false]
   by_cases e155 : c = 155
   ·simp (disch := first | omega | exact NB _ rfl _) only [fu27, Try.f27, Option.getD_some, List.replicate, core1, tyr, fgr, hkr, execOp, opd, opds, ofValue, putT, put, nth, forgetL, doCall, callV_func, und, bor, binOther, strK, aggK, unOp, doPick, branch, ended, resultOf, oneOrTup, equalTop, equal, nilFn, nilPtr, boolOf, List.getElem?_cons_succ, List.getElem?_cons_zero, List.cons_append, List.nil_append, List.append_nil, List.length_cons, List.length_nil, Nat.reduceAdd, Nat.reduceSub, int_bne, ↓reduceIte, Int.reduceEq, decide_not, Bool.not_true, Bool.and_true, Bool.or_true, and_self, Nat.zero_add, wp_pure, c62, c60, twosF, c91, *, or_true, or_false]
   by_cases e156 : c = 156
   ·simp (disch := first | omega | exact NB _ rfl _) only [fu27, Try.f27, Option.getD_some, List.replicate, core1, tyr, fgr, hkr, execOp, opd, opds, ofValue, putT, put, nth, forgetL, doCall, callV_func, und, bor, binOther, strK, aggK, unOp, doPick, branch, ended, resultOf, oneOrTup, equalTop, equal, nilFn, nilPtr, boolOf, List.getElem?_cons_succ, List.getElem?_cons_zero, List.cons_append, List.nil_append, List.append_nil, List.length_cons, List.length_nil, Nat.reduceAdd, Nat.reduceSub, int_beq, ↓reduceIte, Int.reduceEq, Bool.not_true, Bool.and_true, Bool.or_true, and_self, Nat.zero_add, wp_pure, c62, c60, twosF, c92, *, or_true, or_false]
   by_cases e157 : c = 157
   ·simp (disch := first | omega | exact NB _ rfl _) only [fu27, Try.f27, Option.getD_some, List.replicate, core1, tyr, fgr, hkr, execOp, opd, opds, ofValue, putT, put, nth, forgetL, doCall, callV_func, und, bor, binOther, strK, aggK, unOp, doPick, branch, ended, resultOf, oneOrTup, equalTop, equal, nilFn, nilPtr, boolOf, List.getElem?_cons_succ, List.getElem?_cons_zero, List.cons_append, List.nil_append, List.append_nil, List.length_cons, List.length_nil, Nat.reduceAdd, Nat.reduceSub, int_beq, ↓reduceIte, Int.reduceEq, Bool.not_true, Bool.and_true, Bool.or_true, and_self, Nat.zero_add, wp_pure, c62, c60, twosF, c92, *, or_true, or_false]
   by_cases e158 : c = 158
   ·simp (disch := first | omega | exact NB _ rfl _) only [fu27, Try.f27, Option.getD_some, List.replicate, core1, tyr, fgr, hkr, execOp, opd, opds, ofValue, putT, put, nth, forgetL, doCall, callV_func, und, bor, binOther, strK, aggK, unOp, doPick, branch, ended, resultOf, oneOrTup, equalTop, equal, nilFn, nilPtr, boolOf, List.getElem?_cons_succ, List.getElem?_cons_zero, List.cons_append, List.nil_append, List.append_nil, List.length_cons, List.length_nil, Nat.reduceAdd, Nat.reduceSub, int_bne, ↓reduceIte, Int.reduceEq, decide_not, Bool.not_true, Bool.and_true, Bool.or_true, and_self, Nat.zero_add, wp_pure, c62, c60, twosF, c93, *, or_true, or_false]
   by_cases e159 : c = 159
   ·simp (disch := first | omega | exact NB _ rfl _) only [fu27, Try.f27, Option.getD_some, List.replicate, core1, tyr, fgr, hkr, execOp, opd, opds, ofValue, putT, put, nth, forgetL, doCall, callV_func, und, bor, binOther, strK, aggK, unOp, doPick, branch, ended, resultOf, oneOrTup, equalTop, equal, nilFn, nilPtr, boolOf, List.getElem?_cons_succ, List.getElem?_cons_zero, List.cons_append, List.nil_append, List.append_nil, List.length_cons, List.length_nil, Nat.reduceAdd, Nat.reduceSub, ↓reduceIte, Int.reduceEq, Bool.not_true, Bool.and_true, Bool.or_true, and_self, Nat.zero_add, wp_pure, c62, c60, twosF, c94, *, or_true, or_false]
   by_cases e160 : c = 160
   ·simp (disch := first | omega | exact NB _ rfl _) only [fu27, Try.f27, Option.getD_some, List.replicate, core1, tyr, fgr, hkr, execOp, opd, opds, ofValue, putT, put, nth, forgetL, doCall, callV_func, und, bor, binOther, strK, aggK, unOp, doPick, branch, ended, resultOf, oneOrTup, equalTop, equal, nilFn, nilPtr, boolOf, List.getElem?_cons_succ, List.getElem?_cons_zero, List.cons_append, List.nil_append, List.append_nil, List.length_cons, List.length_nil, Nat.reduceAdd, Nat.reduceSub, ↓reduceIte, Int.reduceEq, gt_iff_lt, Bool.not_true, Bool.and_true, Bool.or_true, and_self, Nat.zero_add, wp_pure, c62, c60, twosF, c95, *, or_true, or_false]
   by_cases e161 : c = 161
   ·simp (disch := first | omega | exact NB _ rfl _) only [fu27, Try.f27, Option.getD_some, List.replicate, core1, tyr, fgr, hkr, execOp, opd, opds, ofValue, putT, put, nth, forgetL, doCall, callV_func, und, bor, binOther, strK, aggK, unOp, doPick, branch, ended, resultOf, oneOrTup, equalTop, equal, nilFn, nilPtr, boolOf, List.getElem?_cons_succ, List.getElem?_cons_zero, List.cons_append, List.nil_append, List.append_nil, List.length_cons, List.length_nil, Nat.reduceAdd, Nat.reduceSub, ↓reduceIte, Int.reduceEq, Bool.not_true, Bool.and_true, Bool.or_true, and_self, Nat.zero_add, wp_pure, c62, c60, twosF, c96, *, or_true, or_false]
   by_cases e162 : c = 162
   ·simp (disch := first | omega | exact NB _ rfl _) only [fu27, Try.f27, Option.getD_some, List.replicate, core1, tyr, fgr, hkr, execOp, opd, opds, ofValue, putT, put, nth, forgetL, doCall, callV_func, und, bor, binOther, strK, aggK, unOp, doPick, branch, ended, resultOf, oneOrTup, equalTop, equal, nilFn, nilPtr, boolOf, List.getElem?_cons_succ, List.getElem?_cons_zero, List.cons_append, List.nil_append, List.append_nil, List.length_cons, List.length_nil, Nat.reduceAdd, Nat.reduceSub, ↓reduceIte, Int.reduceEq, ge_iff_le, Bool.not_true, Bool.and_true, Bool.or_true, and_self, Nat.zero_add, wp_pure, c62, c60, twosF, c97, *, or_true, or_false]
   by_cases e163 : c = 163
   ·simp (disch := first | omega | exact NB _ rfl _) only [fu27, Try.f27, Option.getD_some, List.replicate, core1, tyr, fgr, hkr, execOp, opd, opds, ofValue, putT, put, nth, forgetL, doCall, callV_func, und, bor, binOther, strK, aggK, unOp, doPick, branch, ended, resultOf, oneOrTup, equalTop, equal, nilFn, nilPtr, boolOf, List.getElem?_cons_succ, List.getElem?_cons_zero, List.cons_append, List.nil_append, List.append_nil, List.length_cons, List.length_nil, Nat.reduceAdd, Nat.reduceSub, ↓reduceIte, Int.reduceEq, Bool.not_true, Bool.and_true, Bool.or_true, and_self, Nat.zero_add, wp_pure, c62, c60, twosF, c98, *, or_true, or_false]
   by_cases e164 : c = 164
   ·simp (disch := first | omega | exact NB _ rfl _) only [fu27, Try.f27, Option.getD_some, List.replicate, core1, tyr, fgr, hkr, execOp, opd, opds, ofValue, putT, put, nth, forgetL, doCall, callV_func, und, bor, binOther, strK, aggK, unOp, doPick, branch, ended, resultOf, oneOrTup, equalTop, equal, nilFn, nilPtr, boolOf, List.getElem?_cons_succ, List.getElem?_cons_zero, List.cons_append, List.nil_append, List.append_nil, List.length_cons, List.length_nil, Nat.reduceAdd, Nat.reduceSub, ↓reduceIte, Int.reduceEq, Bool.not_true, Bool.and_true, Bool.or_true, and_self, Nat.zero_add, wp_pure, c62, c60, twosF, c99, *, or_true]
   simp (disch := first | omega | exact NB _ rfl _) only [fu27, Try.f27, Option.getD_some, List.replicate, core1, tyr, fgr, hkr, execOp, opd, opds, ofValue, putT, put, nth, forgetL, doCall, callV_func, und, bor, binOther, strK, aggK, ended, resultOf, oneOrTup, equalTop, equal, nilFn, nilPtr, boolOf, List.cons_append, List.nil_append, List.append_nil, List.length_cons, List.length_nil, Nat.reduceAdd, Nat.reduceSub, ↓reduceIte, Bool.and_true, Bool.or_true, and_self, Nat.zero_add, wp_pure, c62, twosF, *, or_false]
  ·rw [Bool.not_eq_true] at hb
   by_cases e147 : c = 147
   ·simp (disch := first | omega | exact NB _ rfl _) only [fu27, Try.f27, Option.getD_some, List.replicate, core1, tyr, fgr, hkr, execOp, opd, opds, ofValue, putT, put, nth, forgetL, doCall, callV_func, und, bor, binOther, strK, aggK, unOp, doPick, branch, ended, resultOf, oneOrTup, equalTop, equal, nilFn, nilPtr, boolOf, List.getElem?_cons_succ, List.getElem?_cons_zero, List.cons_append, List.nil_append, List.append_nil, List.length_cons, List.length_nil, Nat.reduceAdd, Nat.reduceSub, ↓reduceIte, Int.reduceEq, Bool.not_true, Bool.not_false, Bool.and_true, Bool.or_true, and_self, Nat.zero_add, wp_pure, c62, c60, twosF, *, or_false, Bool.false_eq_true]
   by_cases e148 : c = 148
   ·simp (disch := first | omega | exact NB _ rfl _) only [fu27, Try.f27, Option.getD_some, List.replicate, core1, tyr, fgr, hkr, execOp, opd, opds, ofValue, putT, put, nth, forgetL, doCall, callV_func, und, bor, binOther, strK, aggK, unOp, doPick, branch, ended, resultOf, oneOrTup, equalTop, equal, nilFn, nilPtr, boolOf, List.getElem?_cons_succ, List.getElem?_cons_zero, List.cons_append, List.nil_append, List.append_nil, List.length_cons, List.length_nil, Nat.reduceAdd, Nat.reduceSub, ↓reduceIte, Int.reduceEq, Bool.not_true, Bool.not_false, Bool.and_true, Bool.or_true, and_self, Nat.zero_add, wp_pure, c62, c60, twosF, *, or_true, or_false, Bool.false_eq_true]
   by_cases e154 : c = 154
   ·simp (disch := first | omega | exact NB _ rfl _) only [fu27, Try.f27, Option.getD_some, List.replicate, core1, tyr, fgr, hkr, execOp, opd, opds, ofValue, putT, put, nth, forgetL, doCall, callV_func, und, bor, binOther, strK, aggK, unOp, doPick, branch, ended, resultOf, oneOrTup, equalTop, equal, nilFn, nilPtr, boolOf, List.getElem?_cons_succ, List.getElem?_cons_zero, List.cons_append, List.nil_append, List.append_nil, List.length_cons, List.length_nil, Nat.reduceAdd, Nat.reduceSub, ↓reduceIte, Int.reduceEq, Bool.not_true, Bool.not_false, Bool.and_true, Bool.or_true, and_self, Nat.zero_add, wp_pure, c62, c60, twosF, *, or_true, or_false, Bool.false_eq_true]
   by_cases e155 : c = 155
   ·simp (disch := first | omega | exact NB _ rfl _) only [fu27, Try.f27, Option.getD_some, List.replicate, core1, tyr, fgr, hkr, execOp, opd, opds, ofValue, putT, put, nth, forgetL, doCall, callV_func, und, bor, binOther, strK, aggK, unOp, doPick, branch, ended, resultOf, oneOrTup, equalTop, equal, nilFn, nilPtr, boolOf, List.getElem?_cons_succ, List.getElem?_cons_zero, List.cons_append, List.nil_append, List.append_nil, List.length_cons, List.length_nil, Nat.reduceAdd, Nat.reduceSub, ↓reduceIte, Int.reduceEq, Bool.not_true, Bool.not_false, Bool.and_true, Bool.or_true, and_self, Nat.zero_add, wp_pure, c62, c60, twosF, *, or_true, or_false, Bool.false_eq_true]
   by_cases e156 : c = 156
   ·simp (disch := first | omega | exact NB _ rfl _) only [fu27, Try.f27, Option.getD_some, List.replicate, core1, tyr, fgr, hkr, execOp, opd, opds, ofValue, putT, put, nth, forgetL, doCall, callV_func, und, bor, binOther, strK, aggK, unOp, doPick, branch, ended, resultOf, oneOrTup, equalTop, equal, nilFn, nilPtr, boolOf, List.getElem?_cons_succ, List.getElem?_cons_zero, List.cons_append, List.nil_append, List.append_nil, List.length_cons, List.length_nil, Nat.reduceAdd, Nat.reduceSub, ↓reduceIte, Int.reduceEq, Bool.not_true, Bool.not_false, Bool.and_true, Bool.or_true, and_self, Nat.zero_add, wp_pure, c62, c60, twosF, *, or_true, or_false, Bool.false_eq_true]
   by_cases e157 : c = 157
   ·simp (disch := first | omega | exact NB _ rfl _) only [fu27, Try.f27, Option.getD_some, List.replicate, core1, tyr, fgr, hkr, execOp, opd, opds, ofValue, putT, put, nth, forgetL, doCall, callV_func, und, bor, binOther, strK, aggK, unOp, doPick, branch, ended, resultOf, oneOrTup, equalTop, equal, nilFn, nilPtr, boolOf, List.getElem?_cons_succ, List.getElem?_cons_zero, List.cons_append, List.nil_append, List.append_nil, List.length_cons, List.length_nil, Nat.reduceAdd, Nat.reduceSub, ↓reduceIte, Int.reduceEq, Bool.not_true, Bool.not_false, Bool.and_true, Bool.or_true, and_self, Nat.zero_add, wp_pure, c62, c60, twosF, *, or_true, or_false, Bool.false_eq_true]
   by_cases e158 : c = 158
   ·simp (disch := first | omega | exact NB _ rfl _) only [fu27, Try.f27, Option.getD_some, List.replicate, core1, tyr, fgr, hkr, execOp, opd, opds, ofValue, putT, put, nth, forgetL, doCall, callV_func, und, bor, binOther, strK, aggK, unOp, doPick, branch, ended, resultOf, oneOrTup, equalTop, equal, nilFn, nilPtr, boolOf, List.getElem?_cons_succ, List.getElem?_cons_zero, List.cons_append, List.nil_append, List.append_nil, List.length_cons, List.length_nil, Nat.reduceAdd, Nat.reduceSub, ↓reduceIte, Int.reduceEq, Bool.not_true, Bool.not_false, Bool.and_true, Bool.or_true, and_self, Nat.zero_add, wp_pure, c62, c60, twosF, *, or_true, or_false, Bool.false_eq_true]
   by_cases e159 : c = 159
   ·simp (disch := first | omega | exact NB _ rfl _) only [fu27, Try.f27, Option.getD_some, List.replicate, core1, tyr, fgr, hkr, execOp, opd, opds, ofValue, putT, put, nth, forgetL, doCall, callV_func, und, bor, binOther, strK, aggK, unOp, doPick, branch, ended, resultOf, oneOrTup, equalTop, equal, nilFn, nilPtr, boolOf, List.getElem?_cons_succ, List.getElem?_cons_zero, List.cons_append, List.nil_append, List.append_nil, List.length_cons, List.length_nil, Nat.reduceAdd, Nat.reduceSub, ↓reduceIte, Int.reduceEq, Bool.not_true, Bool.not_false, Bool.and_true, Bool.or_true, and_self, Nat.zero_add, wp_pure, c62, c60, twosF, *, or_true, or_false, Bool.false_eq_true]
   by_cases e160 : c = 160
   ·simp (disch := first | omega | exact NB _ rfl _) only [fu27, Try.f27, Option.getD_some, List.replicate, core1, tyr, fgr, hkr, execOp, opd, opds, ofValue, putT, put, nth, forgetL, doCall, callV_func, und, bor, binOther, strK, aggK, unOp, doPick, branch, ended, resultOf, oneOrTup, equalTop, equal, nilFn, nilPtr, boolOf, List.getElem?_cons_succ, List.getElem?_cons_zero, List.cons_append, List.nil_append, List.append_nil, List.length_cons, List.length_nil, Nat.reduceAdd, Nat.reduceSub, ↓reduceIte, Int.reduceEq, Bool.not_true, Bool.not_false, Bool.and_true, Bool.or_true, and_self, Nat.zero_add, wp_pure, c62, c60, twosF, *, or_true, or_false, Bool.false_eq_true]
   by_cases e161 : c = 161
   ·simp (disch := first | omega | exact NB _ rfl _) only [fu27, Try.f27, Option.getD_some, List.replicate, core1, tyr, fgr, hkr, execOp, opd, opds, ofValue, putT, put, nth, forgetL, doCall, callV_func, und, bor, binOther, strK, aggK, unOp, doPick, branch, ended, resultOf, oneOrTup, equalTop, equal, nilFn, nilPtr, boolOf, List.getElem?_cons_succ, List.getElem?_cons_zero, List.cons_append, List.nil_append, List.append_nil, List.length_cons, List.length_nil, Nat.reduceAdd, Nat.reduceSub, ↓reduceIte, Int.reduceEq, Bool.not_true, Bool.not_false, Bool.and_true, Bool.or_true, and_self, Nat.zero_add, wp_pure, c62, c60, twosF, *, or_true, or_false, Bool.false_eq_true]
   by_cases e162 : c = 162
   ·simp (disch := first | omega | exact NB _ rfl _) only [fu27, Try.f27, Option.getD_some, List.replicate, core1, tyr, fgr, hkr, execOp, opd, opds, ofValue, putT, put, nth, forgetL, doCall, callV_func, und, bor, binOther, strK, aggK, unOp, doPick, branch, ended, resultOf, oneOrTup, equalTop, equal, nilFn, nilPtr, boolOf, List.getElem?_cons_succ, List.getElem?_cons_zero, List.cons_append, List.nil_append, List.append_nil, List.length_cons, List.length_nil, Nat.reduceAdd, Nat.reduceSub, ↓reduceIte, Int.reduceEq, Bool.not_true, Bool.not_false, Bool.and_true, Bool.or_true, and_self, Nat.zero_add, wp_pure, c62, c60, twosF, *, or_true, or_false, Bool.false_eq_true]
   by_cases e163 : c = 163
   ·simp (disch := first | omega | exact NB _ rfl _) only [fu27, Try.f27, Option.getD_some, List.replicate, core1, tyr, fgr, hkr, execOp, opd, opds, ofValue, putT, put, nth, forgetL, doCall, callV_func, und, bor, binOther, strK, aggK, unOp, doPick, branch, ended, resultOf, oneOrTup, equalTop, equal, nilFn, nilPtr, boolOf, List.getElem?_cons_succ, List.getElem?_cons_zero, List.cons_append, List.nil_append, List.append_nil, List.length_cons, List.length_nil, Nat.reduceAdd, Nat.reduceSub, ↓reduceIte, Int.reduceEq, Bool.not_true, Bool.not_false, Bool.and_true, Bool.or_true, and_self, Nat.zero_add, wp_pure, c62, c60, twosF, *, or_true, or_false, Bool.false_eq_true]
   by_cases e164 : c = 164
   ·simp (disch := first | omega | exact NB _ rfl _) only [fu27, Try.f27, Option.getD_some, List.replicate, core1, tyr, fgr, hkr, execOp, opd, opds, ofValue, putT, put, nth, forgetL, doCall, callV_func, und, bor, binOther, strK, aggK, unOp, doPick, branch, ended, resultOf, oneOrTup, equalTop, equal, nilFn, nilPtr, boolOf, List.getElem?_cons_succ, List.getElem?_cons_zero, List.cons_append, List.nil_append, List.append_nil, List.length_cons, List.length_nil, Nat.reduceAdd, Nat.reduceSub, ↓reduceIte, Int.reduceEq, Bool.not_true, Bool.not_false, Bool.and_true, Bool.or_true, and_self, Nat.zero_add, wp_pure, c62, c60, twosF, *, or_true, Bool.false_eq_true]
   simp (disch := first | omega | exact NB _ rfl _) only [fu27, Try.f27, Option.getD_some, List.replicate, core1, tyr, fgr, hkr, execOp, opd, opds, ofValue, putT, put, nth, forgetL, doCall, callV_func, und, bor, binOther, strK, aggK, ended, resultOf, oneOrTup, equalTop, equal, nilFn, nilPtr, boolOf, List.cons_append, List.nil_append, List.append_nil, List.length_cons, List.length_nil, Nat.reduceAdd, Nat.reduceSub, ↓reduceIte, Bool.and_true, Bool.or_true, and_self, Nat.zero_add, wp_pure, c62, twosF, *, or_false]
 ·rw [Bool.not_eq_true] at ha
  by_cases e147 : c = 147
  ·simp (disch := first | omega | exact NB _ rfl _) only [fu27, Try.f27, Option.getD_some, List.replicate, core1, tyr, fgr, hkr, execOp, opd, opds, ofValue, putT, put, nth, forgetL, doCall, callV_func, und, bor, binOther, strK, aggK, unOp, doPick, branch, ended, resultOf, oneOrTup, equalTop, equal, nilFn, nilPtr, boolOf, List.getElem?_cons_succ, List.getElem?_cons_zero, List.cons_append, List.nil_append, List.append_nil, List.length_cons, List.length_nil, Nat.reduceAdd, Nat.reduceSub, ↓reduceIte, Int.reduceEq, Bool.not_false, Bool.and_true, Bool.or_true, and_self, Nat.zero_add, wp_pure, c62, c60, twosF, *, or_false, Bool.false_eq_true]
  by_cases e148 : c = 148
  ·simp (disch := first | omega | exact NB _ rfl _) only [fu27, Try.f27, Option.getD_some, List.replicate, core1, tyr, fgr, hkr, execOp, opd, opds, ofValue, putT, put, nth, forgetL, doCall, callV_func, und, bor, binOther, strK, aggK, unOp, doPick, branch, ended, resultOf, oneOrTup, equalTop, equal, nilFn, nilPtr, boolOf, List.getElem?_cons_succ, List.getElem?_cons_zero, List.cons_append, List.nil_append, List.append_nil, List.length_cons, List.length_nil, Nat.reduceAdd, Nat.reduceSub, ↓reduceIte, Int.reduceEq, Bool.not_false, Bool.and_true, Bool.or_true, and_self, Nat.zero_add, wp_pure, c62, c60, twosF, *, or_true, or_false, Bool.false_eq_true]
  by_cases e154 : c = 154
  ·simp (disch := first | omega | exact NB _ rfl _) only [fu27, Try.f27, Option.getD_some, List.replicate, core1, tyr, fgr, hkr, execOp, opd, opds, ofValue, putT, put, nth, forgetL, doCall, callV_func, und, bor, binOther, strK, aggK, unOp, doPick, branch, ended, resultOf, oneOrTup, equalTop, equal, nilFn, nilPtr, boolOf, List.getElem?_cons_succ, List.getElem?_cons_zero, List.cons_append, List.nil_append, List.append_nil, List.length_cons, List.length_nil, Nat.reduceAdd, Nat.reduceSub, ↓reduceIte, Int.reduceEq, Bool.not_false, Bool.and_true, Bool.or_true, and_self, Nat.zero_add, wp_pure, c62, c60, twosF, *, or_true, or_false, Bool.false_eq_true]
  by_cases e155 : c = 155
  ·simp (disch := first | omega | exact NB _ rfl _) only [fu27, Try.f27, Option.getD_some, List.replicate, core1, tyr, fgr, hkr, execOp, opd, opds, ofValue, putT, put, nth, forgetL, doCall, callV_func, und, bor, binOther, strK, aggK, unOp, doPick, branch, ended, resultOf, oneOrTup, equalTop, equal, nilFn, nilPtr, boolOf, List.getElem?_cons_succ, List.getElem?_cons_zero, List.cons_append, List.nil_append, List.append_nil, List.length_cons, List.length_nil, Nat.reduceAdd, Nat.reduceSub, ↓reduceIte, Int.reduceEq, Bool.not_false, Bool.and_true, Bool.or_true, and_self, Nat.zero_add, wp_pure, c62, c60, twosF, *, or_true, or_false, Bool.false_eq_true]
  by_cases e156 : c = 156
  ·simp (disch := first | omega | exact NB _ rfl _) only [fu27, Try.f27, Option.getD_some, List.replicate, core1, tyr, fgr, hkr, execOp, opd, opds, ofValue, putT, put, nth, forgetL, doCall, callV_func, und, bor, binOther, strK, aggK, unOp, doPick, branch, ended, resultOf, oneOrTup, equalTop, equal, nilFn, nilPtr, boolOf, List.getElem?_cons_succ, List.getElem?_cons_zero, List.cons_append, List.nil_append, List.append_nil, List.length_cons, List.length_nil, Nat.reduceAdd, Nat.reduceSub, ↓reduceIte, Int.reduceEq, Bool.not_false, Bool.and_true, Bool.or_true, and_self, Nat.zero_add, wp_pure, c62, c60, twosF, *, or_true, or_false, Bool.false_eq_true]
  by_cases e157 : c = 157
  ·simp (disch := first | omega | exact NB _ rfl _) only [fu27, Try.f27, Option.getD_some, List.replicate, core1, tyr, fgr, hkr, execOp, opd, opds, ofValue, putT, put, nth, forgetL, doCall, callV_func, und, bor, binOther, strK, aggK, unOp, doPick, branch, ended, resultOf, oneOrTup, equalTop, equal, nilFn, nilPtr, boolOf, List.getElem?_cons_succ, List.getElem?_cons_zero, List.cons_append, List.nil_append, List.append_nil, List.length_cons, List.length_nil, Nat.reduceAdd, Nat.reduceSub, ↓reduceIte, Int.reduceEq, Bool.not_false, Bool.and_true, Bool.or_true, and_self, Nat.zero_add, wp_pure, c62, c60, twosF, *, or_true, or_false, Bool.false_eq_true]
  by_cases e158 : c = 158
  ·simp (disch := first | omega | exact NB _ rfl _) only [fu27, Try.f27, Option.getD_some, List.replicate, core1, tyr, fgr, hkr, execOp, opd, opds, ofValue, putT, put, nth, forgetL, doCall, callV_func, und, bor, binOther, strK, aggK, unOp, doPick, branch, ended, resultOf, oneOrTup, equalTop, equal, nilFn, nilPtr, boolOf, List.getElem?_cons_succ, List.getElem?_cons_zero, List.cons_append, List.nil_append, List.append_nil, List.length_cons, List.length_nil, Nat.reduceAdd, Nat.reduceSub, ↓reduceIte, Int.reduceEq, Bool.not_false, Bool.and_true, Bool.or_true, and_self, Nat.zero_add, wp_pure, c62, c60, twosF, *, or_true, or_false, Bool.false_eq_true]
  by_cases e159 : c = 159
  ·simp (disch := first | omega | exact NB _ rfl _) only [fu27, Try.f27, Option.getD_some, List.replicate, core1, tyr, fgr, hkr, execOp, opd, opds, ofValue, putT, put, nth, forgetL, doCall, callV_func, und, bor, binOther, strK, aggK, unOp, doPick, branch, ended, resultOf, oneOrTup, equalTop, equal, nilFn, nilPtr, boolOf, List.getElem?_cons_succ, List.getElem?_cons_zero, List.cons_append, List.nil_append, List.append_nil, List.length_cons, List.length_nil, Nat.reduceAdd, Nat.reduceSub, ↓reduceIte, Int.reduceEq, Bool.not_false, Bool.and_true, Bool.or_true, and_self, Nat.zero_add, wp_pure, c62, c60, twosF, *, or_true, or_false, Bool.false_eq_true]
  by_cases e160 : c = 160
  ·simp (disch := first | omega | exact NB _ rfl _) only [fu27, Try.f27, Option.getD_some, List.replicate, core1, tyr, fgr, hkr, execOp, opd, opds, ofValue, putT, put, nth, forgetL, doCall, callV_func, und, bor, binOther, strK, aggK, unOp, doPick, branch, ended, resultOf, oneOrTup, equalTop, equal, nilFn, nilPtr, boolOf, List.getElem?_cons_succ, List.getElem?_cons_zero, List.cons_append, List.nil_append, List.append_nil, List.length_cons, List.length_nil, Nat.reduceAdd, Nat.reduceSub, ↓reduceIte, Int.reduceEq, Bool.not_false, Bool.and_true, Bool.or_true, and_self, Nat.zero_add, wp_pure, c62, c60, twosF, *, or_true, or_false, Bool.false_eq_true]
  by_cases e161 : c = 161
  ·simp (disch := first | omega | exact NB _ rfl _) only [fu27, Try.f27, Option.getD_some, List.replicate, core1, tyr, fgr, hkr, execOp, opd, opds, ofValue, putT, put, nth, forgetL, doCall, callV_func, und, bor, binOther, strK, aggK, unOp, doPick, branch, ended, resultOf, oneOrTup, equalTop, equal, nilFn, nilPtr, boolOf, List.getElem?_cons_succ, List.getElem?_cons_zero, List.cons_append, List.nil_append, List.append_nil, List.length_cons, List.length_nil, Nat.reduceAdd, Nat.reduceSub, ↓reduceIte, Int.reduceEq, Bool.not_false, Bool.and_true, Bool.or_true, and_self, Nat.zero_add, wp_pure, c62, c60, twosF, *, or_true, or_false, Bool.false_eq_true]
  by_cases e162 : c = 162
  ·simp (disch := first | omega | exact NB _ rfl _) only [fu27, Try.f27, Option.getD_some, List.replicate, core1, tyr, fgr, hkr, execOp, opd, opds, ofValue, putT, put, nth, forgetL, doCall, callV_func, und, bor, binOther, strK, aggK, unOp, doPick, branch, ended, resultOf, oneOrTup, equalTop, equal, nilFn, nilPtr, boolOf, List.getElem?_cons_succ, List.getElem?_cons_zero, List.cons_append, List.nil_append, List.append_nil, List.length_cons, List.length_nil, Nat.reduceAdd, Nat.reduceSub, ↓reduceIte, Int.reduceEq, Bool.not_false, Bool.and_true, Bool.or_true, and_self, Nat.zero_add, wp_pure, c62, c60, twosF, *, or_true, or_false, Bool.false_eq_true]
  by_cases e163 : c = 163
  ·simp (disch := first | omega | exact NB _ rfl _) only [fu27, Try.f27, Option.getD_some, List.replicate, core1, tyr, fgr, hkr, execOp, opd, opds, ofValue, putT, put, nth, forgetL, doCall, callV_func, und, bor, binOther, strK, aggK, unOp, doPick, branch, ended, resultOf, oneOrTup, equalTop, equal, nilFn, nilPtr, boolOf, List.getElem?_cons_succ, List.getElem?_cons_zero, List.cons_append, List.nil_append, List.append_nil, List.length_cons, List.length_nil, Nat.reduceAdd, Nat.reduceSub, ↓reduceIte, Int.reduceEq, Bool.not_false, Bool.and_true, Bool.or_true, and_self, Nat.zero_add, wp_pure, c62, c60, twosF, *, or_true, or_false, Bool.false_eq_true]
  by_cases e164 : c = 164
  ·simp (disch := first | omega | exact NB _ rfl _) only [fu27, Try.f27, Option.getD_some, List.replicate, core1, tyr, fgr, hkr, execOp, opd, opds, ofValue, putT, put, nth, forgetL, doCall, callV_func, und, bor, binOther, strK, aggK, unOp, doPick, branch, ended, resultOf, oneOrTup, equalTop, equal, nilFn, nilPtr, boolOf, List.getElem?_cons_succ, List.getElem?_cons_zero, List.cons_append, List.nil_append, List.append_nil, List.length_cons, List.length_nil, Nat.reduceAdd, Nat.reduceSub, ↓reduceIte, Int.reduceEq, Bool.not_false, Bool.and_true, Bool.or_true, and_self, Nat.zero_add, wp_pure, c62, c60, twosF, *, or_true, Bool.false_eq_true]
  simp (disch := first | omega | exact NB _ rfl _) only [fu27, Try.f27, Option.getD_some, List.replicate, core1, tyr, fgr, hkr, execOp, opd, opds, ofValue, putT, put, nth, forgetL, doCall, callV_func, und, bor, binOther, strK, aggK, ended, resultOf, oneOrTup, equalTop, equal, nilFn, nilPtr, boolOf, List.cons_append, List.nil_append, List.append_nil, List.length_cons, List.length_nil, Nat.reduceAdd, Nat.reduceSub, ↓reduceIte, Bool.and_true, Bool.or_true, and_self, Nat.zero_add, wp_pure, c62, twosF, *, or_false]
def c27 (h : Hp) (n : Nat) (c a b : Int) := opv_det (f27 h n c a b)
def ariV (c : Int) : Int := if c = 139 ∨ c = 140 ∨ c = 143 ∨ c = 144 ∨ c = 145 ∨ c = 146 then 1 else if isTwo c then 2 else if c = 165 then 3 else 0
theorem f31 (h : Hp) (n : Nat) (c : Int) : Wp (callI env (evalW env) 31 [.int .u8 c]) h n fun v' h' n' => v' = .int .i64 (ariV c) ∧ h' = h ∧ n' = n := by
 refine wp_callI ff31 fi31 ?_
 unfold ariV isTwo
 by_cases e139 : c = 139
 ·simp only [fu31, Try.f31, Option.getD_some, List.replicate, tyr, fgr, hkr, bor, binOther, aggK, equalTop, equal, nilFn, nilPtr, boolOf, Nat.reduceSub, ↓reduceIte, Int.reduceEq, c59, onesF, *, or_false, or_self, gE]
 by_cases e140 : c = 140
 ·simp only [fu31, Try.f31, Option.getD_some, List.replicate, tyr, fgr, hkr, bor, binOther, aggK, equalTop, equal, nilFn, nilPtr, boolOf, Nat.reduceSub, ↓reduceIte, Int.reduceEq, c59, onesF, *, or_true, or_false, or_self, gE]
 by_cases e143 : c = 143
 ·simp only [fu31, Try.f31, Option.getD_some, List.replicate, tyr, fgr, hkr, bor, binOther, aggK, equalTop, equal, nilFn, nilPtr, boolOf, Nat.reduceSub, ↓reduceIte, Int.reduceEq, c59, onesF, *, or_true, or_false, or_self, gE]
 by_cases e144 : c = 144
 ·simp only [fu31, Try.f31, Option.getD_some, List.replicate, tyr, fgr, hkr, bor, binOther, aggK, equalTop, equal, nilFn, nilPtr, boolOf, Nat.reduceSub, ↓reduceIte, Int.reduceEq, c59, onesF, *, or_true, or_false, or_self, gE]
 by_cases e145 : c = 145
 ·simp only [fu31, Try.f31, Option.getD_some, List.replicate, tyr, fgr, hkr, bor, binOther, aggK, equalTop, equal, nilFn, nilPtr, boolOf, Nat.reduceSub, ↓reduceIte, Int.reduceEq, c59, onesF, *, or_true, or_false, gE]
 by_cases e146 : c = 146
 ·simp only [fu31, Try.f31, Option.getD_some, List.replicate, tyr, fgr, hkr, bor, binOther, aggK, equalTop, equal, nilFn, nilPtr, boolOf, Nat.reduceSub, ↓reduceIte, Int.reduceEq, c59, onesF, *, or_true, gE]
 by_cases e147 : c = 147
 ·simp only [fu31, Try.f31, Option.getD_some, List.replicate, tyr, fgr, hkr, bor, binOther, aggK, equalTop, equal, nilFn, nilPtr, boolOf, Nat.reduceSub, ↓reduceIte, Int.reduceEq, c59, c62, onesF, twosF, *, or_false, or_self, gE]
 by_cases e148 : c = 148
 ·simp only [fu31, Try.f31, Option.getD_some, List.replicate, tyr, fgr, hkr, bor, binOther, aggK, equalTop, equal, nilFn, nilPtr, boolOf, Nat.reduceSub, ↓reduceIte, Int.reduceEq, c59, c62, onesF, twosF, *, or_true, or_false, or_self, gE]
 by_cases e154 : c = 154
 ·simp only [fu31, Try.f31, Option.getD_some, List.replicate, tyr, fgr, hkr, bor, binOther, aggK, equalTop, equal, nilFn, nilPtr, boolOf, Nat.reduceSub, ↓reduceIte, Int.reduceEq, c59, c62, onesF, twosF, *, or_true, or_false, or_self, gE]
 by_cases e155 : c = 155
 ·simp only [fu31, Try.f31, Option.getD_some, List.replicate, tyr, fgr, hkr, bor, binOther, aggK, equalTop, equal, nilFn, nilPtr, boolOf, Nat.reduceSub, ↓reduceIte, Int.reduceEq, c59, c62, onesF, twosF, *, or_true, or_false, or_self, gE]
 by_cases e156 : c = 156
 ·simp only [fu31, Try.f31, Option.getD_some, List.replicate, tyr, fgr, hkr, bor, binOther, aggK, equalTop, equal, nilFn, nilPtr, boolOf, Nat.reduceSub, ↓reduceIte, Int.reduceEq, c59, c62, onesF, twosF, *, or_true, or_false, or_self, gE]
 by_cases e157 : c = 157
 ·simp only [fu31, Try.f31, Option.getD_some, List.replicate, tyr, fgr, hkr, bor, binOther, aggK, equalTop, equal, nilFn, nilPtr, boolOf, Nat.reduceSub, ↓reduceIte, Int.reduceEq, c59, c62, onesF, twosF, *, or_true, or_false, or_self, gE]
 by_cases e158 : c = 158
 ·simp only [fu31, Try.f31, Option.getD_some, List.replicate, tyr, fgr, hkr, bor, binOther, aggK, equalTop, equal, nilFn, nilPtr, boolOf, Nat.reduceSub, ↓reduceIte, Int.reduceEq, c59, c62, onesF, twosF, *, or_true, or_false, or_self, gE]
 by_cases e159 : c = 159
 ·simp only [fu31, Try.f31, Option.getD_some, List.replicate, tyr, fgr, hkr, bor, binOther, aggK, equalTop, equal, nilFn, nilPtr, boolOf, Nat.reduceSub, ↓reduceIte, Int.reduceEq, c59, c62, onesF, twosF, *, or_true, or_false, or_self, gE]
 by_cases e160 : c = 160
 ·simp only [fu31, Try.f31, Option.getD_some, List.replicate, tyr, fgr, hkr, bor, binOther, aggK, equalTop, equal, nilFn, nilPtr, boolOf, Nat.reduceSub, ↓reduceIte, Int.reduceEq, c59, c62, onesF, twosF, *, or_true, or_false, or_self, gE]
 by_cases e161 : c = 161
 ·simp only [fu31, Try.f31, Option.getD_some, List.replicate, tyr, fgr, hkr, bor, binOther, aggK, equalTop, equal, nilFn, nilPtr, boolOf, Nat.reduceSub, ↓reduceIte, Int.reduceEq, c59, c62, onesF, twosF, *, or_true, or_false, or_self, gE]
 by_cases e162 : c = 162
 ·simp only [fu31, Try.f31, Option.getD_some, List.replicate, tyr, fgr, hkr, bor, binOther, aggK, equalTop, equal, nilFn, nilPtr, boolOf, Nat.reduceSub, ↓reduceIte, Int.reduceEq, c59, c62, onesF, twosF, *, or_true, or_false, or_self, gE]
 by_cases e163 : c = 163
 ·simp only [fu31, Try.f31, Option.getD_some, List.replicate, tyr, fgr, hkr, bor, binOther, aggK, equalTop, equal, nilFn, nilPtr, boolOf, Nat.reduceSub, ↓reduceIte, Int.reduceEq, c59, c62, onesF, twosF, *, or_true, or_false, or_self, gE]
 by_cases e164 : c = 164
 ·simp only [fu31, Try.f31, Option.getD_some, List.replicate, tyr, fgr, hkr, bor, binOther, aggK, equalTop, equal, nilFn, nilPtr, boolOf, Nat.reduceSub, ↓reduceIte, Int.reduceEq, c59, c62, onesF, twosF, *, or_true, or_self, gE]
 by_cases e165 : c = 165
 ·simp only [fu31, Try.f31, Option.getD_some, List.replicate, tyr, fgr, hkr, bor, binOther, aggK, equalTop, equal, nilFn, nilPtr, boolOf, Nat.reduceSub, ↓reduceIte, Int.reduceEq, c59, c62, onesF, twosF, *, or_self, gE]
 simp only [fu31, Try.f31, Option.getD_some, List.replicate, tyr, fgr, hkr, bor, binOther, aggK, equalTop, equal, nilFn, nilPtr, boolOf, Nat.reduceSub, ↓reduceIte, c59, c62, onesF, twosF, *, or_self, gE]
def c31 (h : Hp) (n : Nat) (c : Int) := opv_det (f31 h n c)
theorem f32 (h : Hp) (n : Nat) (c : Int) : Wp (callI env (evalW env) 32 [.int .u8 c]) h n fun v' h' n' => v' = .int .i64 (ariV c) ∧ h' = h ∧ n' = n := by
 refine wp_callI ff32 fi32 ?_
 unfold ariV isTwo
 by_cases e139 : c = 139
 ·simp only [fu32, Try.f32, Option.getD_some, List.replicate, fgr, bor, Nat.reduceSub, ↓reduceIte, Int.reduceEq, *, or_false, or_self, gE]
 by_cases e140 : c = 140
 ·simp only [fu32, Try.f32, Option.getD_some, List.replicate, fgr, bor, Nat.reduceSub, ↓reduceIte, Int.reduceEq, *, or_true, or_false, or_self, gE]
 by_cases e143 : c = 143
 ·simp only [fu32, Try.f32, Option.getD_some, List.replicate, fgr, bor, Nat.reduceSub, ↓reduceIte, Int.reduceEq, *, or_true, or_false, or_self, gE]
 by_cases e144 : c = 144
 ·simp only [fu32, Try.f32, Option.getD_some, List.replicate, fgr, bor, Nat.reduceSub, ↓reduceIte, Int.reduceEq, *, or_true, or_false, or_self, gE]
 by_cases e145 : c = 145
 ·simp only [fu32, Try.f32, Option.getD_some, List.replicate, fgr, bor, Nat.reduceSub, ↓reduceIte, Int.reduceEq, *, or_true, or_false, gE]
 by_cases e146 : c = 146
 ·simp only [fu32, Try.f32, Option.getD_some, List.replicate, fgr, bor, Nat.reduceSub, ↓reduceIte, Int.reduceEq, *, or_true, gE]
 by_cases e147 : c = 147
 ·simp only [fu32, Try.f32, Option.getD_some, List.replicate, fgr, bor, Nat.reduceSub, ↓reduceIte, Int.reduceEq, *, or_false, or_self, gE]
 by_cases e148 : c = 148
 ·simp only [fu32, Try.f32, Option.getD_some, List.replicate, fgr, bor, Nat.reduceSub, ↓reduceIte, Int.reduceEq, *, or_true, or_false, or_self, gE]
 by_cases e154 : c = 154
 ·simp only [fu32, Try.f32, Option.getD_some, List.replicate, fgr, bor, Nat.reduceSub, ↓reduceIte, Int.reduceEq, *, or_true, or_false, or_self, gE]
 by_cases e155 : c = 155
 ·simp only [fu32, Try.f32, Option.getD_some, List.replicate, fgr, bor, Nat.reduceSub, ↓reduceIte, Int.reduceEq, *, or_true, or_false, or_self, gE]
 by_cases e156 : c = 156
 ·simp only [fu32, Try.f32, Option.getD_some, List.replicate, fgr, bor, Nat.reduceSub, ↓reduceIte, Int.reduceEq, *, or_true, or_false, or_self, gE]
 by_cases e157 : c = 157
 ·simp only [fu32, Try.f32, Option.getD_some, List.replicate, fgr, bor, Nat.reduceSub, ↓reduceIte, Int.reduceEq, *, or_true, or_false, or_self, gE]
 by_cases e158 : c = 158
 ·simp only [fu32, Try.f32, Option.getD_some, List.replicate, fgr, bor, Nat.reduceSub, ↓reduceIte, Int.reduceEq, *, or_true, or_false, or_self, gE]
 by_cases e159 : c = 159
 ·simp only [fu32, Try.f32, Option.getD_some, List.replicate, fgr, bor, Nat.reduceSub, ↓reduceIte, Int.reduceEq, *, or_true, or_false, or_self, gE]
 by_cases e160 : c = 160
 ·simp only [fu32, Try.f32, Option.getD_some, List.replicate, fgr, bor, Nat.reduceSub, ↓reduceIte, Int.reduceEq, *, or_true, or_false, or_self, gE]
 by_cases e161 : c = 161
 ·simp only [fu32, Try.f32, Option.getD_some, List.replicate, fgr, bor, Nat.reduceSub, ↓reduceIte, Int.reduceEq, *, or_true, or_false, or_self, gE]
 by_cases e162 : c = 162
 ·simp only [fu32, Try.f32, Option.getD_some, List.replicate, fgr, bor, Nat.reduceSub, ↓reduceIte, Int.reduceEq, *, or_true, or_false, or_self, gE]
 by_cases e163 : c = 163
 ·simp only [fu32, Try.f32, Option.getD_some, List.replicate, fgr, bor, Nat.reduceSub, ↓reduceIte, Int.reduceEq, *, or_true, or_false, or_self, gE]
 by_cases e164 : c = 164
 ·simp only [fu32, Try.f32, Option.getD_some, List.replicate, fgr, bor, Nat.reduceSub, ↓reduceIte, Int.reduceEq, *, or_true, or_self, gE]
 by_cases e165 : c = 165
 ·simp only [fu32, Try.f32, Option.getD_some, List.replicate, fgr, bor, Nat.reduceSub, ↓reduceIte, Int.reduceEq, *, or_self, gE]
 simp only [fu32, Try.f32, Option.getD_some, List.replicate, fgr, bor, Nat.reduceSub, ↓reduceIte, *, or_self, gE]
def c32 (h : Hp) (n : Nat) (c : Int) := opv_det (f32 h n c)
theorem ari1 (c : Int) : (ariV c = 1) = (c = 139 ∨ c = 140 ∨ c = 143 ∨ c = 144 ∨ c = 145 ∨ c = 146) := by
 unfold ariV
 split
 ·rename_i h; simp [h]
 ·rename_i h; simp only [h, eq_iff_iff, iff_false]; split
  ·decide
  ·split <;> decide
theorem ari2 (c : Int) : (ariV c = 2) = isTwo c := by
 unfold ariV
 split
 ·rename_i h
  have : ¬ isTwo c := by unfold isTwo; omega
  simp only [this, eq_iff_iff, iff_false]; decide
 ·split
  ·rename_i h; simp [h]
  ·rename_i h; simp only [h, eq_iff_iff, iff_false]; split <;> decide
theorem f26 (h : Hp) (n : Nat) (c x : Int) : Wp (callI env (evalW env) 26 [.int .u8 c, .int .i64 x]) h n fun v' h' n' => v' = .tup [.int .i64 (oneV c x).1, .int .i64 (oneV c x).2] ∧ h' = h ∧ n' = n := by
 refine wp_callI ff26 fi26 ?_
 unfold oneV
 by_cases hm : may x = true
 ·have hm1 := may_t hm
  by_cases hx : x < 0
  ·have hn : (x.natAbs : Int) = -x := by omega
   by_cases e139 : c = 139
   ·simp (disch := first | omega | exact NB _ rfl _) only [fu26, Try.f26, Option.getD_some, List.replicate, core1, fgr, hkr, execOp, opd, opds, ofValue, putT, put, nth, forgetL, doCall, callV_func, bor, binInt, shiftB, intOp, wrapI, unOp, ended, resultOf, oneOrTup, List.cons_append, List.nil_append, List.append_nil, List.length_cons, List.length_nil, Nat.reduceAdd, Nat.reduceSub, int_bne, ↓reduceIte, Int.reduceEq, not_true_eq_false, decide_true, decide_false, Bool.not_true, and_self, Nat.zero_add, wp_pure, beq_self_eq_true, c32, c61, ari1, *, or_false, w64]
   by_cases e140 : c = 140
   ·simp (disch := first | omega | exact NB _ rfl _) only [fu26, Try.f26, Option.getD_some, List.replicate, core1, fgr, hkr, execOp, opd, opds, ofValue, putT, put, nth, forgetL, doCall, callV_func, bor, binInt, shiftB, intOp, wrapI, unOp, ended, resultOf, oneOrTup, List.cons_append, List.nil_append, List.append_nil, List.length_cons, List.length_nil, Nat.reduceAdd, Nat.reduceSub, int_beq, int_bne, ↓reduceIte, Int.reduceEq, not_true_eq_false, decide_true, decide_false, Bool.not_true, and_self, Nat.zero_add, wp_pure, beq_self_eq_true, c32, c61, ari1, *, or_true, or_false, w64]
   by_cases e143 : c = 143
   ·simp (disch := first | omega | exact NB _ rfl _) only [fu26, Try.f26, Option.getD_some, List.replicate, core1, fgr, hkr, execOp, opd, opds, ofValue, putT, put, nth, forgetL, doCall, callV_func, bor, binInt, shiftB, intOp, wrapI, unOp, ended, resultOf, oneOrTup, List.cons_append, List.nil_append, List.append_nil, List.length_cons, List.length_nil, Nat.reduceAdd, Nat.reduceSub, int_beq, int_bne, ↓reduceIte, Int.reduceEq, not_true_eq_false, decide_true, decide_false, Bool.not_true, and_self, Nat.zero_add, wp_pure, beq_self_eq_true, c32, c61, ari1, *, or_true, or_false, w64, Int.zero_sub]
   by_cases e144 : c = 144
   ·simp (disch := first | omega | exact NB _ rfl _) only [fu26, Try.f26, Option.getD_some, List.replicate, core1, fgr, hkr, execOp, opd, opds, ofValue, putT, put, nth, forgetL, doCall, callV_func, bor, binInt, shiftB, intOp, wrapI, unOp, ended, resultOf, oneOrTup, List.cons_append, List.nil_append, List.append_nil, List.length_cons, List.length_nil, Nat.reduceAdd, Nat.reduceSub, int_beq, int_bne, ↓reduceIte, Int.reduceEq, not_true_eq_false, decide_true, decide_false, Bool.not_true, and_self, Nat.zero_add, wp_pure, beq_self_eq_true, c32, c61, ari1, *, or_true, or_false, w64, Int.zero_sub]
   by_cases e145 : c = 145
   ·simp (disch := first | omega | exact NB _ rfl _) only [fu26, Try.f26, Option.getD_some, List.replicate, core1, fgr, hkr, execOp, opd, opds, ofValue, putT, put, nth, forgetL, doCall, callV_func, bor, binInt, shiftB, intOp, unOp, ended, resultOf, oneOrTup, List.cons_append, List.nil_append, List.append_nil, List.length_cons, List.length_nil, Nat.reduceAdd, Nat.reduceSub, int_beq, int_bne, ↓reduceIte, Int.reduceEq, not_true_eq_false, decide_true, decide_false, Bool.not_true, and_self, Nat.zero_add, wp_pure, beq_self_eq_true, c32, c61, c58, ari1, *, or_true, or_false]
   by_cases e146 : c = 146
   ·simp (disch := first | omega | exact NB _ rfl _) only [fu26, Try.f26, Option.getD_some, List.replicate, core1, fgr, hkr, execOp, opd, opds, ofValue, putT, put, nth, forgetL, doCall, callV_func, bor, binInt, shiftB, intOp, unOp, ended, resultOf, oneOrTup, List.cons_append, List.nil_append, List.append_nil, List.length_cons, List.length_nil, Nat.reduceAdd, Nat.reduceSub, int_beq, int_bne, ↓reduceIte, Int.reduceEq, not_true_eq_false, decide_not, decide_true, decide_false, Bool.not_true, and_self, Nat.zero_add, wp_pure, c32, c61, c58, ari1, *, or_true]
   simp (disch := first | omega | exact NB _ rfl _) only [fu26, Try.f26, Option.getD_some, List.replicate, core1, fgr, hkr, execOp, opd, opds, ofValue, putT, put, nth, forgetL, doCall, callV_func, bor, binInt, shiftB, intOp, ended, resultOf, oneOrTup, List.cons_append, List.nil_append, List.append_nil, List.length_cons, List.length_nil, Nat.reduceAdd, Nat.reduceSub, int_bne, ↓reduceIte, not_false_eq_true, decide_true, and_self, Nat.zero_add, wp_pure, c32, ari1, *, or_false]
  ·have hn : (x.natAbs : Int) = x := by omega
   by_cases e139 : c = 139
   ·simp (disch := first | omega | exact NB _ rfl _) only [fu26, Try.f26, Option.getD_some, List.replicate, core1, fgr, hkr, execOp, opd, opds, ofValue, putT, put, nth, forgetL, doCall, callV_func, bor, binInt, shiftB, intOp, wrapI, unOp, ended, resultOf, oneOrTup, List.cons_append, List.nil_append, List.append_nil, List.length_cons, List.length_nil, Nat.reduceAdd, Nat.reduceSub, int_bne, ↓reduceIte, Int.reduceEq, not_true_eq_false, decide_true, decide_false, Bool.not_true, and_self, Nat.zero_add, wp_pure, beq_self_eq_true, c32, c61, ari1, *, or_false, w64]
   by_cases e140 : c = 140
   ·simp (disch := first | omega | exact NB _ rfl _) only [fu26, Try.f26, Option.getD_some, List.replicate, core1, fgr, hkr, execOp, opd, opds, ofValue, putT, put, nth, forgetL, doCall, callV_func, bor, binInt, shiftB, intOp, wrapI, unOp, ended, resultOf, oneOrTup, List.cons_append, List.nil_append, List.append_nil, List.length_cons, List.length_nil, Nat.reduceAdd, Nat.reduceSub, int_beq, int_bne, ↓reduceIte, Int.reduceEq, not_true_eq_false, decide_true, decide_false, Bool.not_true, and_self, Nat.zero_add, wp_pure, beq_self_eq_true, c32, c61, ari1, *, or_true, or_false, w64]
   by_cases e143 : c = 143
   ·simp (disch := first | omega | exact NB _ rfl _) only [fu26, Try.f26, Option.getD_some, List.replicate, core1, fgr, hkr, execOp, opd, opds, ofValue, putT, put, nth, forgetL, doCall, callV_func, bor, binInt, shiftB, intOp, wrapI, unOp, ended, resultOf, oneOrTup, List.cons_append, List.nil_append, List.append_nil, List.length_cons, List.length_nil, Nat.reduceAdd, Nat.reduceSub, int_beq, int_bne, ↓reduceIte, Int.reduceEq, not_true_eq_false, decide_true, decide_false, Bool.not_true, and_self, Nat.zero_add, wp_pure, beq_self_eq_true, c32, c61, ari1, *, or_true, or_false, w64, Int.zero_sub]
   by_cases e144 : c = 144
   ·simp (disch := first | omega | exact NB _ rfl _) only [fu26, Try.f26, Option.getD_some, List.replicate, core1, fgr, hkr, execOp, opd, opds, ofValue, putT, put, nth, forgetL, doCall, callV_func, bor, binInt, shiftB, intOp, unOp, ended, resultOf, oneOrTup, List.cons_append, List.nil_append, List.append_nil, List.length_cons, List.length_nil, Nat.reduceAdd, Nat.reduceSub, int_beq, int_bne, ↓reduceIte, Int.reduceEq, not_true_eq_false, decide_true, decide_false, Bool.not_true, and_self, Nat.zero_add, wp_pure, beq_self_eq_true, c32, c61, ari1, *, or_true, or_false]
   by_cases e145 : c = 145
   ·simp (disch := first | omega | exact NB _ rfl _) only [fu26, Try.f26, Option.getD_some, List.replicate, core1, fgr, hkr, execOp, opd, opds, ofValue, putT, put, nth, forgetL, doCall, callV_func, bor, binInt, shiftB, intOp, unOp, ended, resultOf, oneOrTup, List.cons_append, List.nil_append, List.append_nil, List.length_cons, List.length_nil, Nat.reduceAdd, Nat.reduceSub, int_beq, int_bne, ↓reduceIte, Int.reduceEq, not_true_eq_false, decide_true, decide_false, Bool.not_true, and_self, Nat.zero_add, wp_pure, beq_self_eq_true, c32, c61, c58, ari1, *, or_true, or_false]
   by_cases e146 : c = 146
   ·simp (disch := first | omega | exact NB _ rfl _) only [fu26, Try.f26, Option.getD_some, List.replicate, core1, fgr, hkr, execOp, opd, opds, ofValue, putT, put, nth, forgetL, doCall, callV_func, bor, binInt, shiftB, intOp, unOp, ended, resultOf, oneOrTup, List.cons_append, List.nil_append, List.append_nil, List.length_cons, List.length_nil, Nat.reduceAdd, Nat.reduceSub, int_beq, int_bne, ↓reduceIte, Int.reduceEq, not_true_eq_false, decide_not, decide_true, decide_false, Bool.not_true, and_self, Nat.zero_add, wp_pure, c32, c61, c58, ari1, *, or_true]
   simp (disch := first | omega | exact NB _ rfl _) only [fu26, Try.f26, Option.getD_some, List.replicate, core1, fgr, hkr, execOp, opd, opds, ofValue, putT, put, nth, forgetL, doCall, callV_func, bor, binInt, shiftB, intOp, ended, resultOf, oneOrTup, List.cons_append, List.nil_append, List.append_nil, List.length_cons, List.length_nil, Nat.reduceAdd, Nat.reduceSub, int_bne, ↓reduceIte, not_false_eq_true, decide_true, and_self, Nat.zero_add, wp_pure, c32, ari1, *, or_false]
 ·rw [Bool.not_eq_true] at hm
  by_cases e139 : c = 139
  ·simp (disch := first | omega | exact NB _ rfl _) only [fu26, Try.f26, Option.getD_some, List.replicate, core1, fgr, hkr, execOp, opd, opds, ofValue, putT, put, nth, forgetL, doCall, callV_func, bor, binInt, shiftB, intOp, unOp, ended, resultOf, oneOrTup, List.cons_append, List.nil_append, List.append_nil, List.length_cons, List.length_nil, Nat.reduceAdd, Nat.reduceSub, int_bne, ↓reduceIte, Int.reduceEq, not_true_eq_false, decide_true, decide_false, Bool.not_false, and_self, Nat.zero_add, wp_pure, c32, c61, ari1, *, or_false, Bool.false_eq_true]
  by_cases e140 : c = 140
  ·simp (disch := first | omega | exact NB _ rfl _) only [fu26, Try.f26, Option.getD_some, List.replicate, core1, fgr, hkr, execOp, opd, opds, ofValue, putT, put, nth, forgetL, doCall, callV_func, bor, binInt, shiftB, intOp, unOp, ended, resultOf, oneOrTup, List.cons_append, List.nil_append, List.append_nil, List.length_cons, List.length_nil, Nat.reduceAdd, Nat.reduceSub, int_bne, ↓reduceIte, Int.reduceEq, not_true_eq_false, decide_true, decide_false, Bool.not_false, and_self, Nat.zero_add, wp_pure, c32, c61, ari1, *, or_true, or_false, Bool.false_eq_true]
  by_cases e143 : c = 143
  ·simp (disch := first | omega | exact NB _ rfl _) only [fu26, Try.f26, Option.getD_some, List.replicate, core1, fgr, hkr, execOp, opd, opds, ofValue, putT, put, nth, forgetL, doCall, callV_func, bor, binInt, shiftB, intOp, unOp, ended, resultOf, oneOrTup, List.cons_append, List.nil_append, List.append_nil, List.length_cons, List.length_nil, Nat.reduceAdd, Nat.reduceSub, int_bne, ↓reduceIte, Int.reduceEq, not_true_eq_false, decide_true, decide_false, Bool.not_false, and_self, Nat.zero_add, wp_pure, c32, c61, ari1, *, or_true, or_false, Bool.false_eq_true]
  by_cases e144 : c = 144
  ·simp (disch := first | omega | exact NB _ rfl _) only [fu26, Try.f26, Option.getD_some, List.replicate, core1, fgr, hkr, execOp, opd, opds, ofValue, putT, put, nth, forgetL, doCall, callV_func, bor, binInt, shiftB, intOp, unOp, ended, resultOf, oneOrTup, List.cons_append, List.nil_append, List.append_nil, List.length_cons, List.length_nil, Nat.reduceAdd, Nat.reduceSub, int_bne, ↓reduceIte, Int.reduceEq, not_true_eq_false, decide_true, decide_false, Bool.not_false, and_self, Nat.zero_add, wp_pure, c32, c61, ari1, *, or_true, or_false, Bool.false_eq_true]
  by_cases e145 : c = 145
  ·simp (disch := first | omega | exact NB _ rfl _) only [fu26, Try.f26, Option.getD_some, List.replicate, core1, fgr, hkr, execOp, opd, opds, ofValue, putT, put, nth, forgetL, doCall, callV_func, bor, binInt, shiftB, intOp, unOp, ended, resultOf, oneOrTup, List.cons_append, List.nil_append, List.append_nil, List.length_cons, List.length_nil, Nat.reduceAdd, Nat.reduceSub, int_bne, ↓reduceIte, Int.reduceEq, not_true_eq_false, decide_true, decide_false, Bool.not_false, and_self, Nat.zero_add, wp_pure, c32, c61, ari1, *, or_true, or_false, Bool.false_eq_true]
  by_cases e146 : c = 146
  ·simp (disch := first | omega | exact NB _ rfl _) only [fu26, Try.f26, Option.getD_some, List.replicate, core1, fgr, hkr, execOp, opd, opds, ofValue, putT, put, nth, forgetL, doCall, callV_func, bor, binInt, shiftB, intOp, unOp, ended, resultOf, oneOrTup, List.cons_append, List.nil_append, List.append_nil, List.length_cons, List.length_nil, Nat.reduceAdd, Nat.reduceSub, int_bne, ↓reduceIte, Int.reduceEq, not_true_eq_false, decide_true, decide_false, Bool.not_false, and_self, Nat.zero_add, wp_pure, c32, c61, ari1, *, or_true, Bool.false_eq_true]
  simp (disch := first | omega | exact NB _ rfl _) only [fu26, Try.f26, Option.getD_some, List.replicate, core1, fgr, hkr, execOp, opd, opds, ofValue, putT, put, nth, forgetL, doCall, callV_func, bor, binInt, shiftB, intOp, ended, resultOf, oneOrTup, List.cons_append, List.nil_append, List.append_nil, List.length_cons, List.length_nil, Nat.reduceAdd, Nat.reduceSub, int_bne, ↓reduceIte, not_false_eq_true, decide_true, and_self, Nat.zero_add, wp_pure, c32, ari1, *, or_false]
def c26 (h : Hp) (n : Nat) (c x : Int) := opv_det (f26 h n c x)
end Go.Am.Ytmoplhbncjicbaa
