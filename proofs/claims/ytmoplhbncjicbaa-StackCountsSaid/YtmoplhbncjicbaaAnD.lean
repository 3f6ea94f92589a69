/- Regions that draw their order: last writers, footprints, what stands ahead of what. -/
import Derived.Test.YtmoplhbncjicbaaAnC
set_option linter.unusedSimpArgs false
set_option linter.unusedVariables false
namespace Go.Am
open Go

/-! ### Last writers -/
section
variable {α : Type} (base : Nat → α) (T : Nat → Nat → Prop) (V : Nat → Nat → α)
open Classical in
/-- What stands at x behind those of the first k steps that are in S: what the last one that touches x has laid there. -/
noncomputable def last (S : Nat → Prop) : Nat → Nat → α
  | 0, x => base x
  | k + 1, x => if S k ∧ T k x then V k x else last S k x
variable {base T V}
theorem last_agree {S : Nat → Prop} {n i : Nat} (hin : i ≤ n) {x : Nat} (h1 : ∀ j, j < i → T j x → S j) (h2 : ∀ k, i ≤ k → k < n → S k → ¬ T k x) : last base T V S n x = last base T V (fun _ => True) i x := by
  have tail : ∀ k, i ≤ k → k ≤ n → last base T V S k x = last base T V S i x := by
    intro k
    induction k with
    | zero =>
      intro h _; have : i = 0 := by omega
      subst this; rfl
    | succ k ih =>
      intro h hk
      by_cases e : i = k + 1
      · subst e; rfl
      · rw [← ih (by omega) (by omega)]
        simp only [last]
        rw [if_neg (fun hh => h2 k (by omega) (by omega) hh.1 hh.2)]
  rw [tail n hin (Nat.le_refl _)]
  clear tail h2 hin
  induction i with
  | zero => rfl
  | succ i ih =>
    simp only [last]
    by_cases ht : T i x
    · rw [if_pos ⟨h1 i (by omega) ht, ht⟩, if_pos ⟨trivial, ht⟩]
    · rw [if_neg (fun h => ht h.2), if_neg (fun h => ht h.2)]
      exact ih (fun j hj => h1 j (by omega))
open Classical in
theorem last_put {S : Nat → Prop} {i : Nat} (hi : ¬ S i) {x : Nat} : ∀ {n : Nat}, i < n → (T i x → ∀ k, i < k → k < n → S k → ¬ T k x) →
    last base T V (fun k => S k ∨ k = i) n x = if T i x then V i x else last base T V S n x := by
  have low : ∀ k, k ≤ i → last base T V (fun k => S k ∨ k = i) k x = last base T V S k x := by
    intro k
    induction k with
    | zero => intro _; rfl
    | succ k ih =>
      intro hk
      have : (S k ∨ k = i) ↔ S k := ⟨fun h => h.resolve_right (by omega), .inl⟩
      simp only [last, this, ih (by omega)]
  intro n
  induction n with
  | zero => intro h; omega
  | succ n ih =>
    intro hn h
    by_cases e : n = i
    · subst e
      simp only [last, or_true, true_and, low n (Nat.le_refl _)]
      by_cases ht : T n x
      · rw [if_pos ht, if_pos ht]
      · rw [if_neg ht, if_neg ht, if_neg (fun h => hi h.1)]
    · have hlt : i < n := by omega
      have ih' := ih hlt (fun ht k hk hkn => h ht k hk (by omega))
      simp only [last]
      have : (S n ∨ n = i) ↔ S n := ⟨fun h => h.resolve_right e, .inl⟩
      simp only [this, ih']
      by_cases hs : S n ∧ T n x
      · have hnt : ¬ T i x := fun ht => h ht n hlt (by omega) hs.1 hs.2
        rw [if_pos hs, if_neg hnt, if_pos hs]
      · rw [if_neg hs, if_neg hs]
end

/-! ### Footprints -/
theorem meets_false {x y : List Nat} (h : meets x y = false) {a : Nat} (ha : a ∈ x) (hb : a ∈ y) : False := by
  have : meets x y = true := List.any_eq_true.2 ⟨a, ha, List.any_eq_true.2 ⟨a, hb, Nat.beq_refl a⟩⟩
  rw [this] at h; cases h
theorem hits_false {x : List Nat} {f : Foot} (h : hits x f = false) {a : Nat} (ha : a ∈ x) (h1 : f.lo ≤ a) (h2 : a < f.hi) : False := by
  unfold hits at h
  split at h
  · rename_i e
    have := Nat.eq_of_beq_eq_true e
    omega
  · have : (x.any (within f.lo f.hi)) = true := List.any_eq_true.2 ⟨a, ha, by
      have h2' : a.blt f.hi = true := Nat.ble_eq_true_of_le h2
      simp [within, Nat.ble_eq_true_of_le h1, h2']⟩
    rw [this] at h; cases h
theorem clash_false {a b : Foot} (h : clash a b = false) : meets a.w b.r = false ∧ meets a.w b.w = false ∧ meets a.r b.w = false ∧ hits a.r b = false ∧ hits a.w b = false ∧ hits b.r a = false ∧ hits b.w a = false := by
  simpa [clash] using h
theorem not_old {lo hi x : Nat} (h : old lo hi x = false) : lo ≤ x ∧ x < hi := by
  simp only [old, Bool.or_eq_false_iff] at h
  refine ⟨?_, ?_⟩
  · rcases Nat.lt_or_ge x lo with hl | hl
    · have : x.blt lo = true := Nat.ble_eq_true_of_le hl
      rw [this] at h; cases h.1
    · exact hl
  · rcases Nat.lt_or_ge x hi with hl | hl
    · exact hl
    · have : hi.ble x = true := Nat.ble_eq_true_of_le hl
      rw [this] at h; cases h.2
theorem mem_old {l : List Nat} {lo hi x : Nat} (h : x ∈ l) : x ∈ l.filter (old lo hi) ∨ (lo ≤ x ∧ x < hi) := by
  cases e : old lo hi x with
  | true => exact .inl (List.mem_filter.2 ⟨h, e⟩)
  | false => exact .inr (not_old e)
/-- Two that do not clash do not touch what the other looks at. -/
theorem apart {r1 w1 r2 w2 : List Nat} {j1 j2 lo1 hi1 lo2 hi2 : Nat} (h : clash ⟨j1, r1.filter (old lo1 hi1), w1.filter (old lo1 hi1), lo1, hi1⟩ ⟨j2, r2.filter (old lo2 hi2), w2.filter (old lo2 hi2), lo2, hi2⟩ = false) (hlo : hi1 ≤ lo2) {x : Nat} :
    ((x ∈ r1 ∨ x ∈ w1 ∨ (lo1 ≤ x ∧ x < hi1)) → (x ∈ w2 ∨ (lo2 ≤ x ∧ x < hi2)) → False) ∧ ((x ∈ w1 ∨ (lo1 ≤ x ∧ x < hi1)) → (x ∈ r2 ∨ x ∈ w2 ∨ (lo2 ≤ x ∧ x < hi2)) → False) := by
  obtain ⟨c1, c2, c3, c4, c5, c6, c7⟩ := clash_false h
  simp only at c1 c2 c3 c4 c5 c6 c7
  have n12 : (lo1 ≤ x ∧ x < hi1) → (lo2 ≤ x ∧ x < hi2) → False := fun a b => by omega
  have w1n2 : x ∈ w1 → (lo2 ≤ x ∧ x < hi2) → False := fun a b => by
    rcases mem_old (lo := lo1) (hi := hi1) a with a | a
    · exact hits_false c5 a b.1 b.2
    · exact n12 a b
  have r1n2 : x ∈ r1 → (lo2 ≤ x ∧ x < hi2) → False := fun a b => by
    rcases mem_old (lo := lo1) (hi := hi1) a with a | a
    · exact hits_false c4 a b.1 b.2
    · exact n12 a b
  have n1w2 : (lo1 ≤ x ∧ x < hi1) → x ∈ w2 → False := fun a b => by
    rcases mem_old (lo := lo2) (hi := hi2) b with b | b
    · exact hits_false c7 b a.1 a.2
    · exact n12 a b
  have n1r2 : (lo1 ≤ x ∧ x < hi1) → x ∈ r2 → False := fun a b => by
    rcases mem_old (lo := lo2) (hi := hi2) b with b | b
    · exact hits_false c6 b a.1 a.2
    · exact n12 a b
  have w1w2 : x ∈ w1 → x ∈ w2 → False := fun a b => by
    rcases mem_old (lo := lo1) (hi := hi1) a with a' | a'
    · rcases mem_old (lo := lo2) (hi := hi2) b with b' | b'
      · exact meets_false c2 a' b'
      · exact w1n2 a b'
    · exact n1w2 a' b
  have r1w2 : x ∈ r1 → x ∈ w2 → False := fun a b => by
    rcases mem_old (lo := lo1) (hi := hi1) a with a' | a'
    · rcases mem_old (lo := lo2) (hi := hi2) b with b' | b'
      · exact meets_false c3 a' b'
      · exact r1n2 a b'
    · exact n1w2 a' b
  have w1r2 : x ∈ w1 → x ∈ r2 → False := fun a b => by
    rcases mem_old (lo := lo1) (hi := hi1) a with a' | a'
    · rcases mem_old (lo := lo2) (hi := hi2) b with b' | b'
      · exact meets_false c1 a' b'
      · exact w1n2 a b'
    · exact n1r2 a' b
  refine ⟨fun a b => ?_, fun a b => ?_⟩
  · rcases a with a | a | a <;> rcases b with b | b
    · exact r1w2 a b
    · exact r1n2 a b
    · exact w1w2 a b
    · exact w1n2 a b
    · exact n1w2 a b
    · exact n12 a b
  · rcases a with a | a <;> rcases b with b | b | b
    · exact w1r2 a b
    · exact w1w2 a b
    · exact w1n2 a b
    · exact n1r2 a b
    · exact n1w2 a b
    · exact n12 a b

/-! ### What is ahead -/
def Ok2 (bs : List Nat) (b a : Foot) : Prop := clash a b = false ∨ (bs.getD b.j 0).testBit a.j = true
theorem fine_pairwise {bs : List Nat} : ∀ {fs : List Foot}, fine bs fs = true → fs.Pairwise (Ok2 bs)
  | [], _ => .nil
  | b :: l, h => by
    simp only [fine, Bool.and_eq_true, List.all_eq_true, Bool.or_eq_true] at h
    refine List.pairwise_cons.2 ⟨fun a ha => ?_, fine_pairwise h.2⟩
    rcases h.1 a ha with h | h
    · exact .inl (by simpa using h)
    · exact .inr h
theorem fine_at {bs : List Nat} {F : List Foot} (h : fine bs F.reverse = true) {i k : Nat} {a b : Foot} (hik : i < k) (ha : F[i]? = some a) (hb : F[k]? = some b) : Ok2 bs b a := by
  have hp := fine_pairwise h
  rw [List.pairwise_reverse] at hp
  obtain ⟨hk, hbk⟩ := List.getElem?_eq_some_iff.1 hb
  obtain ⟨hi, hai⟩ := List.getElem?_eq_some_iff.1 ha
  have := List.pairwise_iff_getElem.1 hp i k hi hk hik
  rw [hai, hbk] at this
  exact this
theorem bitsOf_spec {acc : List Nat} {i : Nat} : ∀ {es : List Edge}, (bitsOf acc es).testBit i = true → ∃ e ∈ es, Region.binds .any e = true ∧ (i = e.on ∨ (acc.getD e.on 0).testBit i = true)
  | [], h => by simp [bitsOf] at h
  | e :: l, h => by
    unfold bitsOf at h
    split at h
    · rename_i hb
      rw [Nat.testBit_or, Nat.testBit_or, Bool.or_eq_true, Bool.or_eq_true] at h
      rcases h with h | h | h
      · obtain ⟨e', h1, h2, h3⟩ := bitsOf_spec h
        exact ⟨e', List.mem_cons_of_mem _ h1, h2, h3⟩
      · rw [Nat.testBit_two_pow] at h
        exact ⟨e, List.mem_cons_self, hb, .inl (of_decide_eq_true h).symm⟩
      · exact ⟨e, List.mem_cons_self, hb, .inr h⟩
    · obtain ⟨e', h1, h2, h3⟩ := bitsOf_spec h
      exact ⟨e', List.mem_cons_of_mem _ h1, h2, h3⟩
theorem befores_spec : ∀ (l : List Oper) (acc : List Nat), (∃ tl, befores acc l = acc ++ tl) ∧ ∀ k o, l[k]? = some o → (befores acc l).getD (acc.length + k) 0 = bitsOf ((befores acc l).take (acc.length + k)) o.after.toList := by
  intro l
  induction l with
  | nil => intro acc; exact ⟨⟨[], by simp [befores]⟩, fun k o h => by simp at h⟩
  | cons q l ih =>
    intro acc
    obtain ⟨⟨tl, h1⟩, h2⟩ := ih (acc ++ [bitsOf acc q.after.toList])
    refine ⟨⟨bitsOf acc q.after.toList :: tl, by simp only [befores, h1]; simp⟩, fun k o hk => ?_⟩
    cases k with
    | zero =>
      simp at hk
      subst hk
      simp only [befores, h1, Nat.add_zero, List.append_assoc]
      simp [List.getD_eq_getElem?_getD]
    | succ k =>
      have := h2 k o (by simpa using hk)
      simp only [List.length_append, List.length_singleton] at this
      simp only [befores]
      have e : acc.length + 1 + k = acc.length + (k + 1) := by omega
      rw [e] at this
      exact this
theorem backB_spec : ∀ (l : List Oper) (j : Nat), backB j l = true → ∀ k o, l[k]? = some o → ∀ e ∈ o.after, Region.binds .any e = true → e.on < j + k := by
  intro l
  induction l with
  | nil => intro j _ k o h; simp at h
  | cons q l ih =>
    intro j h k o hk e he hbe
    simp only [backB, Bool.and_eq_true, List.all_eq_true] at h
    cases k with
    | zero =>
      simp at hk
      subst hk
      have := h.1 e (by simpa using he)
      rw [hbe] at this
      exact Nat.le_of_ble_eq_true this
    | succ k =>
      have := ih (j + 1) h.2 k o (by simpa using hk) e he hbe
      omega
/-- Who is in a closed set has all that stands ahead of it there too. -/
theorem closed_bits {l : List Oper} {S : Nat → Prop} (hb : backB 0 l = true) (hc : ∀ k o, S k → l[k]? = some o → ∀ e ∈ o.after, Region.binds .any e = true → S e.on) :
    ∀ (k : Nat) (o : Oper), l[k]? = some o → (∀ e ∈ o.after, Region.binds .any e = true → S e.on) → ∀ i, ((befores [] l).getD k 0).testBit i = true → S i := by
  intro k
  induction k using Nat.strongRecOn with
  | _ k ih =>
    intro o ho hs i hi
    have h1 := (befores_spec l []).2 k o ho
    simp only [List.length_nil, Nat.zero_add] at h1
    rw [h1] at hi
    obtain ⟨e, he, hbe, h⟩ := bitsOf_spec hi
    have he' : e ∈ o.after := by simpa using he
    have hse := hs e he' hbe
    have hlt := backB_spec l 0 hb k o ho e he' hbe
    simp only [Nat.zero_add] at hlt
    rcases h with rfl | h
    · exact hse
    · have hlk := (List.getElem?_eq_some_iff.1 ho).1
      obtain ⟨oe, hoe⟩ : ∃ oe, l[e.on]? = some oe := ⟨_, List.getElem?_eq_getElem (by omega)⟩
      refine ih e.on hlt oe hoe (hc e.on oe hse hoe) i ?_
      rw [List.getD_eq_getElem?_getD] at h ⊢
      rw [List.getElem?_take_of_lt hlt] at h
      exact h

/-! ### What an operation looks at -/
variable {E : Env}
theorem mem_tmpsOf {t : Nat} : ∀ {l : List Operand}, Operand.tmp t ∈ l → t ∈ tmpsOf l
  | x :: l, h => by
    rcases List.mem_cons.1 h with h | h
    · subst h; simp [tmpsOf]
    · have := mem_tmpsOf h
      unfold tmpsOf
      split
      · exact List.mem_cons_of_mem _ this
      · exact this
theorem opd_congr {tm tm' : List AVal} {x : Operand} (h : ∀ t, x = .tmp t → nth tm t undef = nth tm' t undef) : opd tm x = opd tm' x := by
  cases x with
  | tmp t => exact h t rfl
  | _ => rfl
theorem opds_congr {tm tm' : List AVal} : ∀ {l : List Operand}, (∀ x ∈ l, opd tm x = opd tm' x) → opds tm l = opds tm' l
  | [], _ => rfl
  | x :: l, h => by
    simp only [opds, h x List.mem_cons_self, opds_congr (l := l) (fun y hy => h y (List.mem_cons_of_mem _ hy))]
theorem ops2_congr {tm tm' : List AVal} : ∀ {l : List (Nat × Operand)}, (∀ x ∈ l.map (·.2), opd tm x = opd tm' x) → ops2 tm l = ops2 tm' l
  | [], _ => rfl
  | x :: l, h => by
    simp only [ops2, h x.2 (by simp), ops2_congr (l := l) (fun y hy => h y (by simp at hy ⊢; exact .inr hy))]
theorem execOp_congr {rec : Rec} {tm tm' : List AVal} {op : Op} (h : ∀ x ∈ op.operands, opd tm x = opd tm' x) : execOp E rec tm op = execOp E rec tm' op := by
  cases op <;> simp only [Op.operands] at h <;> simp only [execOp]
  case build t ps => rw [ops2_congr (fun x hx => h x (by simpa using hx))]
  case buildSlice t n ps => rw [ops2_congr (fun x hx => h x (by simpa using hx))]
  case makeFunc fn first captured =>
    rw [opds_congr (l := first.toList) (fun x hx => h x (by simp at hx; simp [hx])), opds_congr (l := captured.toList) (fun x hx => h x (by simp at hx; simp [hx]))]
  case slice t x lo hi mx =>
    have hx := h x (by simp)
    have hlo : opt tm lo = opt tm' lo := by cases lo with | none => rfl | some y => simp only [opt]; rw [h y (by simp)]
    have hhi : opt tm hi = opt tm' hi := by cases hi with | none => rfl | some y => simp only [opt]; rw [h y (by simp)]
    have hmx : opt tm mx = opt tm' mx := by cases mx with | none => rfl | some y => simp only [opt]; rw [h y (by simp)]
    rw [hx, hlo, hhi, hmx]
  case makeMap t r =>
    have hr : opt tm r = opt tm' r := by cases r with | none => rfl | some y => simp only [opt]; rw [h y (by simp)]
    rw [hr]
  case call c =>
    obtain ⟨callee, args, tys⟩ := c
    simp only [Call.operands] at h
    simp only [doCall]
    have ha : opds tm args.toList = opds tm' args.toList := opds_congr (fun x hx => h x (by simp at hx; simp [hx]))
    rw [ha]
    cases callee with
    | value f => simp only; rw [h f (by simp)]
    | _ => rfl
  all_goals first | rfl | (simp_all; done)
theorem opV_congr {rec : Rec} {ops : List Oper} {o : Oper} {tm tm' : List AVal} (h : ∀ t ∈ looks ops o, nth tm t undef = nth tm' t undef) : opV E rec ops o tm = opV E rec ops o tm' := by
  have h1 : execOp E rec tm o.op = execOp E rec tm' o.op := execOp_congr (fun x hx => opd_congr (fun t ht => by
    subst ht
    exact h t (List.mem_append_left _ (mem_tmpsOf (by simpa using hx)))))
  have h2 : wanted ops tm o.guard = wanted ops tm' o.guard := by
    unfold wanted
    cases hg : o.guard with
    | none => rfl
    | some p =>
      simp only
      cases hd : (ops[p.1]?).bind (·.dst) with
      | none => rfl
      | some d => simp only; rw [h d (by simp [looks, hg, hd])]
  unfold opV
  rw [h1, h2]
end Go.Am
