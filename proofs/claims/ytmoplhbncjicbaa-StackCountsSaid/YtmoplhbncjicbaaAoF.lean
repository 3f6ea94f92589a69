/- Slices that grow, and rounds. -/
import Derived.Test.YtmoplhbncjicbaaAoE
set_option linter.unusedSimpArgs false
set_option linter.unusedVariables false
set_option linter.defProp false
namespace Go.Am
open Go Go.RowKit
variable {E : Env} {fn : FuncId} {rnd : Option Nat} {Q : Post0} {ks : List Kf} {tm : List AVal} {h : Hp} {n : Nat} {ops rest : List Oper} {d : Option Tmp}

/-- A slice that has its cells for itself. -/
inductive Own (h : Hp) (n : Nat) (e : TypeId) (sz : Nat) : AVal → Nat → List AVal → Prop
  | nil : Own h n e sz .nils 0 []
  | sl (id cnt : Nat) (xs : List AVal) (hid : id < n) (hh : h id = some (.row (.l xs) e)) (hl : xs.length = cnt * sz) : Own h n e sz (.sl id 0 cnt none sz) cnt xs
  | full (id cnt : Nat) (xs : List AVal) (e' : TypeId) (hid : id < n) (hh : h id = some (.row (.l xs) e')) (hl : xs.length = cnt * sz) : Own h n e sz (.sl id 0 cnt (some cnt) sz) cnt xs
def ownId : AVal → Option Nat
  | .sl id _ _ _ _ => some id
  | _ => none
theorem Own.len {e : TypeId} {sz cnt : Nat} {v : AVal} {xs : List AVal} (ho : Own h n e sz v cnt xs) : lenOf v = M.pure cnt := by cases ho <;> rfl
theorem Own.length {e : TypeId} {sz cnt : Nat} {v : AVal} {xs : List AVal} (ho : Own h n e sz v cnt xs) : xs.length = cnt * sz := by cases ho with | nil => simp | sl id cnt xs hid hh hl => exact hl | full id cnt xs e' hid hh hl => exact hl
theorem Own.below {e : TypeId} {sz cnt : Nat} {v : AVal} {xs : List AVal} (ho : Own h n e sz v cnt xs) : Below0 n v := by cases ho with | nil => trivial | sl id cnt xs hid hh hl => exact hid | full id cnt xs e' hid hh hl => exact hid
theorem Own.keep {e : TypeId} {sz cnt : Nat} {v : AVal} {xs : List AVal} {h' : Hp} {n' : Nat} (ho : Own h n e sz v cnt xs) (hn : n ≤ n') (hk : ∀ j, ownId v = some j → h' j = h j) : Own h' n' e sz v cnt xs := by
  cases ho with
  | nil => exact .nil
  | sl id cnt xs hid hh hl => exact .sl id cnt xs (by omega) (by rw [hk id rfl]; exact hh) hl
  | full id cnt xs e' hid hh hl => exact .full id cnt xs e' (by omega) (by rw [hk id rfl]; exact hh) hl
theorem Own.id_lt {e : TypeId} {sz cnt : Nat} {v : AVal} {xs : List AVal} (ho : Own h n e sz v cnt xs) {j : Nat} (hj : ownId v = some j) : j < n := by
  cases ho with
  | nil => cases hj
  | sl id cnt xs hid hh hl => injection hj with hj; omega
  | full id cnt xs e' hid hh hl => injection hj with hj; omega
theorem Own.bytes {e : TypeId} {cnt : Nat} {v : AVal} {l : List UInt8} (ho : Own h n e 1 v cnt (l.map u8)) : Bytes h v l := by
  have hl := ho.length
  simp only [List.length_map, Nat.mul_one] at hl
  generalize hx : l.map u8 = xs at ho
  cases ho with
  | nil =>
    have : l = [] := by simpa using hx
    subst this; exact .nils
  | sl id cnt xs hid hh hl2 =>
    subst hl; subst hx
    exact .fresh (n := id) hh
  | full id cnt xs e' hid hh hl2 =>
    subst hl; subst hx
    exact .fresh (n := id) hh
theorem blit_of {a b : Nat} (hh : ¬ a ≤ b) : a.ble b = false := by
  cases hc : a.ble b with
  | false => rfl
  | true => exact absurd (Nat.le_of_ble_eq_true hc) hh
theorem ble_of {a b : Nat} (hh : a ≤ b) : a.ble b = true := Nat.ble_eq_true_of_le hh
theorem beq_of {a b : Nat} (hh : ¬ a = b) : a.beq b = false := by
  cases hc : a.beq b with
  | false => rfl
  | true => exact absurd (Nat.eq_of_beq_eq_true hc) hh
/-- append of cells. -/
theorem wp_append_x {Q : AVal → Hp → Nat → Prop} {t t2 e : TypeId} {i : TI} {s x : AVal} {cnt k : Nat} {xs ys : List AVal} (hs : Own h n e i.size s cnt xs)
    (ht : und E t = M.pure (.slice e)) (ht2 : und E t2 = M.pure (.slice e)) (hi : ti E e = M.pure i) (hxl : lenOf x = M.pure k)
    (hxc : ∀ {α : Type} (f : List AVal → M α) (Q : α → Hp → Nat → Prop), Wp ((sliceCells i.size k x).bind f) h n Q ↔ Wp (f ys) h n Q) (hy : ys.length = k * i.size) (hk : 0 < k) (hz : 0 < i.size) (hc : ys.all oneCell = true)
    (hroom : 2 * (cnt + k) * i.bytes ≤ 281474976710656) (hroom2 : cnt + k ≤ 281474976710656)
    (hq : ∀ h', h' n = some (.row (.l (xs ++ ys)) e) → (∀ j, j ≠ n → ownId s ≠ some j → h' j = h j) → Q (.sl n 0 (cnt + k) none i.size) h' (n + 1)) :
    Wp (bAppend E [t, t2] s x) h n Q := by
  have hk0 : k.beq 0 = false := beq_of (by omega)
  simp only [bAppend, ht2, bind_pure, intB, append, ht, hi, hxl, bind_assoc, wp_ask, hk0]
  rw [hxc]
  have r1 : ((2 * (cnt + k) * i.bytes).ble room && (cnt + k).ble room) = true := by
    unfold room
    rw [ble_of hroom, ble_of hroom2]; rfl
  cases hs with
  | nil =>
    rw [Nat.zero_add] at r1
    simp only [grown, wp_ob, wp_new, wp_pure, r1, true_and]
    rw [Nat.zero_add] at hq
    exact hq (upd h n (some (.row (.l ys) e))) (upd_same _ _ _) (fun j hj _ => upd_ne _ _ hj)
  | full id cnt xs e' hid hh hl =>
    have hfit : (cnt + k).ble cnt = false := blit_of (by omega)
    simp only [sameSz, Nat.beq_refl, wp_get, hh, Option.some.injEq, exists_eq_left', rowK, wp_ask, Nat.zero_add, hfit, sliceCells, bind_assoc, wp_ob, Nat.ble_self_eq_true, Cont.size, ← hl, true_and, bind_pure, Cont.sub, List.drop_zero, List.take_length, grown, r1, wp_new, wp_pure]
    exact hq (upd h n (some (.row (.l (xs ++ ys)) e))) (upd_same _ _ _) (fun j hj _ => upd_ne _ _ hj)
  | sl id cnt xs hid hh hl =>
    have hfit : ((cnt + k) * i.size).ble xs.length = false := blit_of (by rw [hl, Nat.add_mul]; have : 0 < k * i.size := Nat.mul_pos hk hz; omega)
    simp only [sameSz, Nat.beq_refl, wp_get, hh, Option.some.injEq, exists_eq_left', rowK, wp_ask, Cont.size, hfit, hc, Bool.and_true, sliceCells, bind_assoc, wp_ob, Cont.sub, List.drop_zero, Nat.zero_add, ← hl, List.take_length, Nat.ble_self_eq_true,
      true_and, bind_pure, wp_kill, grown, wp_new, wp_pure, r1, ne_eq, not_false_eq_true, reduceCtorEq]
    refine hq (upd (upd h id none) n (some (.row (.l (xs ++ ys)) e))) (upd_same _ _ _) (fun j hj hj2 => ?_)
    rw [upd_ne _ _ hj, upd_ne _ _ (fun e => hj2 (by rw [e]; rfl))]
theorem own_append_x {t t2 e : TypeId} {i : TI} {s x : AVal} {cnt k : Nat} {xs ys : List AVal} (hs : Own h n e i.size s cnt xs)
    (ht : und E t = M.pure (.slice e)) (ht2 : und E t2 = M.pure (.slice e)) (hi : ti E e = M.pure i) (hxl : lenOf x = M.pure k)
    (hxc : ∀ {α : Type} (f : List AVal → M α) (Q : α → Hp → Nat → Prop), Wp ((sliceCells i.size k x).bind f) h n Q ↔ Wp (f ys) h n Q) (hy : ys.length = k * i.size) (hk : 0 < k) (hz : 0 < i.size) (hc : ys.all oneCell = true)
    (hroom : 2 * (cnt + k) * i.bytes ≤ 281474976710656) (hroom2 : cnt + k ≤ 281474976710656)
    (hq : ∀ h', h' n = some (.row (.l (xs ++ ys)) e) → (∀ j, j ≠ n → ownId s ≠ some j → h' j = h j) → Ops E fn rnd Q ks ops rest (putT tm d (.sl n 0 (cnt + k) none i.size)) h' (n + 1)) :
    OpV E fn rnd Q ks ops rest d tm (bAppend E [t, t2] s x) h n := wp_append_x hs ht ht2 hi hxl hxc hy hk hz hc hroom hroom2 hq
theorem own_append' {t t2 e : TypeId} {i : TI} {s x : AVal} {cnt k : Nat} {xs ys : List AVal} (hs : Own h n e i.size s cnt xs)
    (ht : und E t = M.pure (.slice e)) (ht2 : und E t2 = M.pure (.slice e)) (hi : ti E e = M.pure i) (hxl : lenOf x = M.pure k)
    (hxc : ∀ {α : Type} (f : List AVal → M α) (Q : α → Hp → Nat → Prop), Wp ((sliceCells i.size k x).bind f) h n Q ↔ Wp (f ys) h n Q) (hy : ys.length = k * i.size) (hk : 0 < k) (hz : 0 < i.size) (hc : ys.all oneCell = true)
    (hroom : 2 * (cnt + k) * i.bytes ≤ 281474976710656) (hroom2 : cnt + k ≤ 281474976710656)
    (hq : ∀ v' h', Own h' (n + 1) e i.size v' (cnt + k) (xs ++ ys) → ownId v' = some n → (∀ j, j ≠ n → ownId s ≠ some j → h' j = h j) → Ops E fn rnd Q ks ops rest (putT tm d v') h' (n + 1)) :
    OpV E fn rnd Q ks ops rest d tm (bAppend E [t, t2] s x) h n :=
  own_append_x hs ht ht2 hi hxl hxc hy hk hz hc hroom hroom2 fun h' hh hold =>
    hq _ h' (.sl n (cnt + k) _ (by omega) hh (by have := hs.length; simp [hy, this, Nat.add_mul])) rfl hold
/-- append of what a slice holds that was just built. -/
theorem own_append {t t2 e e2 : TypeId} {i : TI} {s : AVal} {cnt k i2 : Nat} {c2 : Option Nat} {xs ys : List AVal} (hs : Own h n e i.size s cnt xs)
    (ht : und E t = M.pure (.slice e)) (ht2 : und E t2 = M.pure (.slice e)) (hi : ti E e = M.pure i) (h2 : h i2 = some (.row (.l ys) e2)) (hy : ys.length = k * i.size) (hk : 0 < k) (hz : 0 < i.size) (hc : ys.all oneCell = true)
    (hne : ownId s ≠ some i2) (hroom : 2 * (cnt + k) * i.bytes ≤ 281474976710656) (hroom2 : cnt + k ≤ 281474976710656)
    (hq : ∀ v' h', Own h' (n + 1) e i.size v' (cnt + k) (xs ++ ys) → ownId v' = some n → (∀ j, j ≠ n → ownId s ≠ some j → h' j = h j) → Ops E fn rnd Q ks ops rest (putT tm d v') h' (n + 1)) :
    OpV E fn rnd Q ks ops rest d tm (bAppend E [t, t2] s (.sl i2 0 k c2 i.size)) h n := by
  refine own_append' hs ht ht2 hi rfl ?_ hy hk hz hc hroom hroom2 hq
  intro α f Q
  simp only [sliceCells, sameSz, bind_assoc, Nat.beq_refl, wp_get, h2, Option.some.injEq, exists_eq_left', rowK, wp_ob, bind_pure, Cont.size, Cont.sub, List.drop_zero, Nat.zero_add, ← hy, List.take_length, Nat.ble_self_eq_true, true_and]
theorem u8_one (l : List UInt8) : (l.map u8).all oneCell = true := by
  induction l with
  | nil => rfl
  | cons a l ih => simp [u8, oneCell, ih]
/-- append of bytes. -/
theorem app_bytes {t t2 e : TypeId} {i : TI} {s x : AVal} {cnt : Nat} {xs : List AVal} {l : List UInt8} (hs : Own h n e 1 s cnt xs) (hx : Bytes h x l)
    (ht : und E t = M.pure (.slice e)) (ht2 : und E t2 = M.pure (.slice e)) (hi : ti E e = M.pure i) (h1 : i.size = 1) (hroom : 2 * (cnt + l.length) * i.bytes ≤ 281474976710656) (hroom2 : cnt + l.length ≤ 281474976710656)
    (hq : ∀ v' h' n', n ≤ n' → Own h' n' e 1 v' (cnt + l.length) (xs ++ l.map u8) → (v' = s ∧ h' = h ∧ n' = n ∨ ownId v' = some n ∧ n' = n + 1) → (∀ j, j ≠ n → ownId s ≠ some j → h' j = h j) → Ops E fn rnd Q ks ops rest (putT tm d v') h' n') :
    OpV E fn rnd Q ks ops rest d tm (bAppend E [t, t2] s x) h n := by
  by_cases hl : l = []
  · subst hl
    have hlen := hx.len
    unfold OpV
    simp only [bAppend, ht2, bind_pure, intB, append, ht, hi, hlen, List.length_nil, Nat.beq_refl, wp_ask]
    have := hq s h n (Nat.le_refl _) (by simpa using hs) (.inl ⟨rfl, rfl, rfl⟩) (fun _ _ _ => rfl)
    cases hs <;> exact wp_pure.2 this
  · have hpos := List.length_pos_iff.2 hl
    rw [← h1] at hs
    refine own_append' hs ht ht2 hi hx.len ?_ (by simp [h1]) hpos (by omega) (u8_one l) hroom hroom2 ?_
    · intro α f Q
      rw [h1]; exact hx.cells
    · intro v' h' ho hid hold
      rw [h1] at ho
      exact hq v' h' (n + 1) (by omega) ho (.inr ⟨hid, rfl⟩) hold

/-! ### Rounds -/
theorem run_range {f : Operand} {ps : Array Tmp} {a b : Code} {g : FuncId} {first cap : List AVal} (hf : opd tm f = .fn (.func g) first cap) (hg : (E.funcs.find g).f.beq g = true)
    (hw : Wp (callF E (evalW E) g (first ++ [AVal.fn (.yield n) [] []] ++ cap)) (upd h n (some (.loop { state := .ready, pending := none, fn := fn, tmps := tm, params := ps.toList, assign := a, body := b }))) (n + 1) fun v h' n' =>
      ∃ l, h' n = some (.loop l) ∧ l.state ≠ .busy ∧ ∃ e, (match l.pending with | none => e = .normal | some .ret => e = .ret | some (.exit j) => e = .exit j | _ => False) ∧
        Kont E fn none Q ks e tm (upd h' n (some (.loop { l with state := .exhausted }))) n') :
    Run E fn none Q (.rangeFunc f ps a b) ks tm h n := by
  unfold Run; rw [wp_step]
  simp only [step, hf, hg, bind_pure, wp_bind_iff, wp_new']
  refine wp_mono hw fun v h' n' ⟨l, hl, hb, e, he, hk⟩ => ?_
  simp only [rangeK, wp_get, hl, Option.some.injEq, exists_eq_left', loopK]
  cases hs : l.state with
  | busy => exact absurd hs hb
  | _ =>
    simp only [wp_set, hl, ne_eq, reduceCtorEq, not_false_eq_true, true_and]
    cases hp : l.pending with
    | none => rw [hp] at he; simp only at he; subst he; rw [hp] at hk; simp only [wp_pure]; exact hk
    | some c =>
      rw [hp] at he
      cases c with
      | ret => simp only at he; subst he; rw [hp] at hk; simp only [wp_pure]; exact hk
      | exit j => simp only at he; subst he; rw [hp] at hk; simp only [wp_pure]; exact hk
      | _ => exact he.elim
theorem opv_yield {id : Nat} {args : List AVal} {l : ALoop} (hl : h id = some (.loop l)) (hs : l.state = .ready) (ha : args.length.beq l.params.length = true)
    (hw : Run E l.fn (some id) (fun e tm1 h1 n1 => e = .normal ∧ ∃ l2, h1 id = some (.loop l2) ∧ l2.state = .ready ∧
      Run E l.fn (some id) (fun e2 tm2 h2 n2 => ∃ l3, h2 id = some (.loop l3) ∧
        Ops E fn rnd Q ks ops rest (putT tm d (.blit (normB e2))) (upd h2 id (some (.loop { l3 with state := (match normB e2 with | true => .ready | false => .done), pending := jumpOf e2 }))) n2)
        l.body [] tm1 (upd h1 id (some (.loop { l2 with state := .busy }))) n1) l.assign [] (putAll l.tmps (l.params.zip args)) h n) :
    OpV E fn rnd Q ks ops rest d tm (callV E (evalW E) (.fn (.yield id) [] []) args) h n := by
  simp only [callV, yieldTo]
  rw [opv_get]
  refine ⟨_, hl, ?_⟩
  simp only [loopK, ha, hs, OpV, wp_bind_iff]
  refine wp_mono hw fun r h1 n1 hr => ?_
  obtain ⟨e, tm1⟩ := r
  obtain ⟨he, l2, hl2, hs2, hb⟩ := hr
  subst he
  refine wp_get.2 ⟨_, hl2, ?_⟩
  simp only [loopK, hs2]
  refine wp_set.2 ⟨by rw [hl2]; simp, ?_⟩
  refine wp_bind_iff.2 (wp_mono hb fun r2 h2 n2 hr2 => ?_)
  obtain ⟨e2, tm2⟩ := r2
  obtain ⟨l3, hl3, hq⟩ := hr2
  refine wp_get.2 ⟨_, hl3, ?_⟩
  simp only [loopK]
  refine wp_set.2 ⟨by rw [hl3]; simp, ?_⟩
  exact wp_pure.2 hq
/-! ### Loops by their place in the text -/
def loopsOf : Code → List Code
  | .seq a b => loopsOf a ++ loopsOf b
  | .cond _ a b => loopsOf a ++ loopsOf b
  | .block _ c => loopsOf c
  | .loop c => c :: loopsOf c
  | .scope c => loopsOf c
  | .rangeFunc _ _ a b => loopsOf a ++ loopsOf b
  | _ => []
def rangesOf : Code → List (Code × Code)
  | .seq a b => rangesOf a ++ rangesOf b
  | .cond _ a b => rangesOf a ++ rangesOf b
  | .block _ c => rangesOf c
  | .loop c => rangesOf c
  | .scope c => rangesOf c
  | .rangeFunc _ _ a b => (a, b) :: (rangesOf a ++ rangesOf b)
  | _ => []
#print axioms opv_yield
end Go.Am
