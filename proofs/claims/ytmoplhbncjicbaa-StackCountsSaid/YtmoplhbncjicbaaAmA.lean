/- An abstract machine beside the model: values, blocks, a monad whose actions bear the proof that they are local. -/
import GoSem.Dispatch
import GoSem.Machine.Frame
set_option linter.unusedSimpArgs false
set_option linter.unusedVariables false
namespace Go.Am
open Go

/-- Values of the abstract machine: addresses are numbers of abstract blocks; what is immutable bears its content. -/
inductive AVal where
  | bool (b : Bool)
  | blit (b : Bool)
  | int (k : IntKind) (n : Int)
  | str (l : List UInt8)
  | nilp | nils | nilm | nilf | nili
  | emp
  | ptr (id off : Nat)
  | sl (id off len : Nat) (cap : Option Nat) (sz : Nat)
  | ip (f : Nat → AVal) (n off : Nat)
  | isl (f : Nat → AVal) (sz off len : Nat)
  | fn (f : Fn) (first cap : List AVal)
  | agg (l : List AVal)
  | tup (l : List AVal)
  | map (id : Nat)
  | junk
instance : Inhabited AVal := ⟨.junk⟩

mutual
def ofValue : Value → AVal
  | .bool b => .bool b
  | .int k n => .int k n
  | .string s => .str s.data.toList
  | .pointer none => .nilp
  | .slice none 0 0 => .nils
  | .map none => .nilm
  | .nilFunc => .nilf
  | .nilIface => .nili
  | .agg c => .agg (ofArr c)
  | .tuple c => .tup (ofArr c)
  | _ => .junk
def ofArr : Array Value → List AVal
  | ⟨l⟩ => ofList l
def ofList : List Value → List AVal
  | [] => []
  | v :: l => ofValue v :: ofList l
end

def AVal.cells : AVal → List AVal
  | .agg l => l
  | v => [v]
def undef : AVal := .tup []
def nth : List AVal → Nat → AVal → AVal
  | [], _, d => d
  | a :: _, 0, _ => a
  | _ :: l, n + 1, d => nth l n d
def put : List AVal → Nat → AVal → List AVal
  | [], _, _ => []
  | _ :: l, 0, v => v :: l
  | a :: l, n + 1, v => a :: put l n v

/-- What a block's cells are: a list, or a number of them and each by its place. -/
inductive Cont where
  | l (xs : List AVal)
  | f (n : Nat) (g : Nat → AVal)
def Cont.size : Cont → Nat
  | .l xs => xs.length
  | .f n _ => n
def Cont.at : Cont → Nat → AVal
  | .l xs, i => nth xs i .junk
  | .f _ g, i => g i
def Cont.set (c : Cont) (i : Nat) (v : AVal) : Cont :=
  match c with
  | .l xs => .l (put xs i v)
  | .f n g => .f n fun k => match k.beq i with | true => v | false => g k
def cellsOf (g : Nat → AVal) (off : Nat) : Nat → List AVal
  | 0 => []
  | n + 1 => g off :: cellsOf g (off + 1) n
def Cont.sub (c : Cont) (off n : Nat) : List AVal :=
  match c with
  | .l xs => (xs.drop off).take n
  | .f _ g => cellsOf g off n

structure ALoop where
  state : LoopState
  pending : Option Code
  fn : FuncId
  tmps : List AVal
  params : List Tmp
  assign : Code
  body : Code

inductive Blk where
  | row (c : Cont) (elem : TypeId)
  | loop (l : ALoop)
  | siter (s : List UInt8) (pos : Nat)
  | map (es : List (AVal × AVal × Nat)) (ck : Nat)
  | miter (m since : Nat) (seen : List Nat) (last : Nat)

inductive Tr where
  | nil
  | fn (g : Nat → Option Blk)
  | node (l : Tr) (v : Option Blk) (r : Tr)
def Tr.get : Tr → Nat → Option Blk
  | .nil, _ => none
  | .fn g, n => g n
  | .node l v r, n => match n with
    | 0 => v
    | n + 1 => match (n % 2).beq 0 with
      | true => l.get (n / 2)
      | false => r.get (n / 2)
def Tr.left : Tr → Tr
  | .nil => .nil
  | .fn g => .fn fun n => g (2 * n + 1)
  | .node l _ _ => l
def Tr.val : Tr → Option Blk
  | .nil => none
  | .fn g => g 0
  | .node _ v _ => v
def Tr.right : Tr → Tr
  | .nil => .nil
  | .fn g => .fn fun n => g (2 * n + 2)
  | .node _ _ r => r
def Tr.set : (fuel : Nat) → Tr → Nat → Option Blk → Tr
  | 0, t, _, _ => t
  | k + 1, t, n, b => match n with
      | 0 => .node t.left b t.right
      | n + 1 => match (n % 2).beq 0 with
        | true => .node (Tr.set k t.left (n / 2) b) t.val t.right
        | false => .node t.left t.val (Tr.set k t.right (n / 2) b)

theorem Tr.get_left (t : Tr) (n : Nat) : t.left.get n = t.get (2 * n + 1) := by
  cases t with
  | nil => simp [Tr.left, Tr.get]
  | fn g => simp [Tr.left, Tr.get]
  | node l v r =>
    simp only [Tr.left, Tr.get]
    have h1 : 2 * n % 2 = 0 := by omega
    have h2 : 2 * n / 2 = n := by omega
    rw [h1, h2]
theorem Tr.get_right (t : Tr) (n : Nat) : t.right.get n = t.get (2 * n + 2) := by
  cases t with
  | nil => simp [Tr.right, Tr.get]
  | fn g => simp [Tr.right, Tr.get]
  | node l v r =>
    simp only [Tr.right, Tr.get]
    have h1 : (2 * n + 1) % 2 = 1 := by omega
    have h2 : (2 * n + 1) / 2 = n := by omega
    rw [h1, h2]
theorem Tr.get_zero (t : Tr) : t.val = t.get 0 := by cases t <;> rfl
theorem Tr.get_set : ∀ (k : Nat) (t : Tr) (n : Nat) (b : Option Blk), n + 1 < 2 ^ k → ∀ j, (Tr.set k t n b).get j = if j = n then b else t.get j := by
  intro k
  induction k with
  | zero => intro t n b h; simp at h
  | succ k ih =>
    intro t n b h j
    cases n with
    | zero =>
      simp only [Tr.set]
      cases j with
      | zero => simp [Tr.get]
      | succ j =>
        simp only [Tr.get]
        rcases Nat.mod_two_eq_zero_or_one j with hj | hj
        · rw [hj]; simp only [Nat.beq_refl]
          rw [Tr.get_left]
          have : 2 * (j / 2) + 1 = j + 1 := by omega
          rw [this]; simp
        · rw [hj]; simp only [show (1 : Nat).beq 0 = false from rfl]
          rw [Tr.get_right]
          have : 2 * (j / 2) + 2 = j + 1 := by omega
          rw [this]; simp
    | succ n =>
      simp only [Tr.set]
      rcases Nat.mod_two_eq_zero_or_one n with hn | hn
      · rw [hn]; simp only [Nat.beq_refl]
        have ih' := ih t.left (n / 2) b (by rw [Nat.pow_succ] at h; omega)
        cases j with
        | zero => simp [Tr.get, Tr.get_zero]
        | succ j =>
          simp only [Tr.get]
          rcases Nat.mod_two_eq_zero_or_one j with hj | hj
          · rw [hj]; simp only [Nat.beq_refl]
            rw [ih' (j / 2), Tr.get_left]
            have : 2 * (j / 2) + 1 = j + 1 := by omega
            rw [this]
            by_cases e : j = n
            · subst e; simp
            · have : j / 2 ≠ n / 2 := by omega
              simp [e, this]
          · rw [hj]; simp only [show (1 : Nat).beq 0 = false from rfl]
            rw [Tr.get_right]
            have : 2 * (j / 2) + 2 = j + 1 := by omega
            rw [this]
            have : j ≠ n := by omega
            simp [this]
      · rw [hn]; simp only [show (1 : Nat).beq 0 = false from rfl]
        have ih' := ih t.right (n / 2) b (by rw [Nat.pow_succ] at h; omega)
        cases j with
        | zero => simp [Tr.get, Tr.get_zero]
        | succ j =>
          simp only [Tr.get]
          rcases Nat.mod_two_eq_zero_or_one j with hj | hj
          · rw [hj]; simp only [Nat.beq_refl]
            rw [Tr.get_left]
            have : 2 * (j / 2) + 1 = j + 1 := by omega
            rw [this]
            have : j ≠ n := by omega
            simp [this]
          · rw [hj]; simp only [show (1 : Nat).beq 0 = false from rfl]
            rw [ih' (j / 2), Tr.get_right]
            have : 2 * (j / 2) + 2 = j + 1 := by omega
            rw [this]
            by_cases e : j = n
            · subst e; simp
            · have : j / 2 ≠ n / 2 := by omega
              simp [e, this]

structure St where
  heap : Tr
  next : Nat
  rds : List Nat
  wrs : List Nat
  obs : List Bool
  orc : Option (List Bool)

inductive Res (α : Type) where
  | ok (a : α) (s : St)
  | fail (why : String)
  | ask (b : Bool)

/-- The blocks that an action made. -/
def New (s s' : St) (id : Nat) : Prop := s.next ≤ id ∧ id < s'.next

/-- What an action did: what it read, wrote; and from whatever state is alike there it does the same. -/
structure Did {α : Type} (f : St → Res α) (s : St) (a : α) (s' : St) (r w : List Nat) (o : List Bool) : Prop where
  next : s.next ≤ s'.next
  rds : s'.rds = r ++ s.rds
  wrs : s'.wrs = w ++ s.wrs
  obs : s'.obs = o ++ s.obs
  rest : ∀ id, id ∉ w → ¬ New s s' id → s'.heap.get id = s.heap.get id
  live : ∀ id, id ∈ w → s.heap.get id ≠ none ∨ New s s' id
  again : ∀ t : St, t.next = s.next → t.orc = s.orc → (∀ id, id ∈ r ∨ id ∈ w ∨ New s s' id → t.heap.get id = s.heap.get id) →
    ∃ t', f t = .ok a t' ∧ t'.next = s'.next ∧ t'.orc = s'.orc ∧ t'.rds = r ++ t.rds ∧ t'.wrs = w ++ t.wrs ∧ t'.obs = o ++ t.obs ∧
      (∀ id, id ∈ w ∨ New s s' id → t'.heap.get id = s'.heap.get id) ∧ (∀ id, id ∉ w → ¬ New s s' id → t'.heap.get id = t.heap.get id)
  orc : s.orc = none → s'.orc = none
  rlive : ∀ id, id ∈ r → s.heap.get id ≠ none ∨ New s s' id

def Loc {α : Type} (f : St → Res α) : Prop := ∀ s a s', f s = .ok a s' → ∃ r w o, Did f s a s' r w o

structure M (α : Type) where
  run : St → Res α
  loc : Loc run

theorem loc_pure {α : Type} (a : α) : Loc (fun s => Res.ok a s) := by
  intro s a' s' h
  injection h with h1 h2
  subst h1; subst h2
  exact ⟨[], [], [], ⟨Nat.le_refl _, rfl, rfl, rfl, fun _ _ _ => rfl, fun _ h => (by cases h), fun t hn ho hg =>
    ⟨t, rfl, hn, ho, rfl, rfl, rfl, fun id hid => hg id (.inr hid), fun _ _ _ => rfl⟩, id, fun _ h => (by cases h)⟩⟩
def M.pure {α : Type} (a : α) : M α := ⟨fun s => .ok a s, loc_pure a⟩
theorem loc_none {α : Type} {f : St → Res α} (h : ∀ s a s', f s ≠ .ok a s') : Loc f := fun s a s' e => absurd e (h s a s')
def fail {α : Type} (why : String) : M α := ⟨fun _ => .fail why, loc_none (fun _ _ _ h => by cases h)⟩

def bindF {α β : Type} (m : St → Res α) (f : α → M β) (s : St) : Res β :=
  match m s with
  | .ok a s => (f a).run s
  | .fail w => .fail w
  | .ask b => .ask b
theorem loc_bind {α β : Type} (m : M α) (f : α → M β) : Loc (bindF m.run f) := by
  intro s b s2 h
  unfold bindF at h
  cases hm : m.run s with
  | fail w => rw [hm] at h; cases h
  | ask b => rw [hm] at h; cases h
  | ok a s1 =>
    rw [hm] at h
    simp only at h
    obtain ⟨r1, w1, o1, d1⟩ := m.loc s a s1 hm
    obtain ⟨r2, w2, o2, d2⟩ := (f a).loc s1 b s2 h
    have n1 := d1.next
    have n2 := d2.next
    have fresh1 : ∀ id, New s s1 id → New s s2 id := fun id hid => ⟨hid.1, by have := hid.2; omega⟩
    have fresh2 : ∀ id, New s1 s2 id → New s s2 id := fun id hid => ⟨by have := hid.1; omega, hid.2⟩
    have split : ∀ id, New s s2 id → New s s1 id ∨ New s1 s2 id := fun id hid => by
      by_cases hlt : id < s1.next
      · exact .inl ⟨hid.1, hlt⟩
      · exact .inr ⟨by omega, hid.2⟩
    refine ⟨r2 ++ r1, w2 ++ w1, o2 ++ o1, ⟨by omega, by rw [d2.rds, d1.rds, List.append_assoc], by rw [d2.wrs, d1.wrs, List.append_assoc], by rw [d2.obs, d1.obs, List.append_assoc], ?_, ?_, ?_, fun h => d2.orc (d1.orc h), ?_⟩⟩
    · intro id hw hn
      simp only [List.mem_append, not_or] at hw
      rw [d2.rest id hw.1 (fun x => hn (fresh2 id x)), d1.rest id hw.2 (fun x => hn (fresh1 id x))]
    · intro id hw
      simp only [List.mem_append] at hw
      by_cases h1 : New s s1 id
      · exact .inr (fresh1 id h1)
      by_cases hw1 : id ∈ w1
      · rcases d1.live id hw1 with h | h
        · exact .inl h
        · exact .inr (fresh1 id h)
      rcases hw with hw | hw
      · rcases d2.live id hw with h | h
        · rw [d1.rest id hw1 h1] at h
          exact .inl h
        · exact .inr (fresh2 id h)
      · exact absurd hw hw1
    · intro t hn ho hg
      obtain ⟨t1, e1, hn1, ho1, hr1, hw1, hob1, hg1, hk1⟩ := d1.again t hn ho (fun id hid => hg id (by
        rcases hid with h | h | h
        · exact .inl (List.mem_append.2 (.inr h))
        · exact .inr (.inl (List.mem_append.2 (.inr h)))
        · exact .inr (.inr (fresh1 id h))))
      obtain ⟨t2, e2, hn2, ho2, hr2, hw2, hob2, hg2, hk2⟩ := d2.again t1 hn1 ho1 (fun id hid => by
        by_cases hc : id ∈ w1 ∨ New s s1 id
        · exact hg1 id hc
        · simp only [not_or] at hc
          rw [hk1 id hc.1 hc.2, d1.rest id hc.1 hc.2]
          refine hg id ?_
          rcases hid with h | h | h
          · exact .inl (List.mem_append.2 (.inl h))
          · exact .inr (.inl (List.mem_append.2 (.inl h)))
          · exact .inr (.inr (fresh2 id h)))
      refine ⟨t2, ?_, hn2, ho2, by rw [hr2, hr1, List.append_assoc], by rw [hw2, hw1, List.append_assoc], by rw [hob2, hob1, List.append_assoc], ?_, ?_⟩
      · unfold bindF; rw [e1]; exact e2
      · intro id hid
        by_cases hc : id ∈ w2 ∨ New s1 s2 id
        · exact hg2 id hc
        · simp only [not_or] at hc
          rw [hk2 id hc.1 hc.2, d2.rest id hc.1 hc.2]
          refine hg1 id ?_
          rcases hid with h | h
          · rcases List.mem_append.1 h with h | h
            · exact absurd h hc.1
            · exact .inl h
          · rcases split id h with h | h
            · exact .inr h
            · exact absurd h hc.2
      · intro id hw hnw
        simp only [List.mem_append, not_or] at hw
        rw [hk2 id hw.1 (fun x => hnw (fresh2 id x)), hk1 id hw.2 (fun x => hnw (fresh1 id x))]
    · intro id hr
      simp only [List.mem_append] at hr
      by_cases h1 : New s s1 id
      · exact .inr (fresh1 id h1)
      rcases hr with hr | hr
      · by_cases hw1 : id ∈ w1
        · rcases d1.live id hw1 with h | h
          · exact .inl h
          · exact .inr (fresh1 id h)
        · rcases d2.rlive id hr with h | h
          · rw [d1.rest id hw1 h1] at h
            exact .inl h
          · exact .inr (fresh2 id h)
      · rcases d1.rlive id hr with h | h
        · exact .inl h
        · exact .inr (fresh1 id h)
def M.bind {α β : Type} (m : M α) (f : α → M β) : M β := ⟨bindF m.run f, loc_bind m f⟩
theorem M.bind_ok {α β : Type} {m : M α} {f : α → M β} {s : St} {b : β} {s2 : St} (h : (m.bind f).run s = .ok b s2) :
    ∃ a s1, m.run s = .ok a s1 ∧ (f a).run s1 = .ok b s2 := by
  simp only [M.bind, bindF] at h
  cases hm : m.run s with
  | fail w => rw [hm] at h; cases h
  | ask b => rw [hm] at h; cases h
  | ok a s1 => rw [hm] at h; exact ⟨a, s1, rfl, h⟩

def Tr.put (t : Tr) (n : Nat) (b : Option Blk) : Tr := Tr.set (Nat.log2 (n + 1) + 1) t n b
theorem Tr.get_put (t : Tr) (n : Nat) (b : Option Blk) (j : Nat) : (t.put n b).get j = if j = n then b else t.get j := Tr.get_set _ t n b Nat.lt_log2_self j
def getF (id : Nat) (s : St) : Res Blk :=
  match s.heap.get id with
  | some b => .ok b { s with rds := id :: s.rds }
  | none => .fail "no such block"
theorem loc_get (id : Nat) : Loc (getF id) := by
  intro s a s' h
  unfold getF at h
  cases hg : s.heap.get id with
  | none => rw [hg] at h; cases h
  | some b =>
    rw [hg] at h
    injection h with h1 h2
    subst h1; subst h2
    refine ⟨[id], [], [], ⟨Nat.le_refl _, rfl, rfl, rfl, fun _ _ _ => rfl, fun _ h => (by cases h), fun t hn ho hg' => ?_, fun h => h, fun id' hr => ?_⟩⟩
    · refine ⟨{ t with rds := id :: t.rds }, ?_, hn, ho, rfl, rfl, rfl, fun id' h => ?_, fun _ _ _ => rfl⟩
      · unfold getF; rw [hg' id (.inl (by simp)), hg]
      · exact hg' id' (.inr h)
    · have : id' = id := by simpa using hr
      subst this
      left; rw [hg]; simp
def getB (id : Nat) : M Blk := ⟨getF id, loc_get id⟩
def setF (id : Nat) (b : Option Blk) (s : St) : Res Unit :=
  match s.heap.get id with
  | none => .fail "no such block to set"
  | some _ => .ok () { s with heap := s.heap.put id b, wrs := id :: s.wrs }
theorem loc_set (id : Nat) (b : Option Blk) : Loc (setF id b) := by
  intro s a s' h
  unfold setF at h
  cases hg : s.heap.get id with
  | none => rw [hg] at h; cases h
  | some b0 =>
    rw [hg] at h
    injection h with _ h2
    subst h2
    have hset := fun (t : Tr) => Tr.get_put t id b
    refine ⟨[], [id], [], ⟨Nat.le_refl _, rfl, rfl, rfl, ?_, ?_, ?_, fun h => h, fun _ h => (by cases h)⟩⟩
    · intro id' hw _
      have : id' ≠ id := by simpa using hw
      simp only [hset, this, if_false]
    · intro id' hw
      have : id' = id := by simpa using hw
      subst this
      left; rw [hg]; simp
    · intro t hn ho hg'
      refine ⟨{ t with heap := t.heap.put id b, wrs := id :: t.wrs }, ?_, hn, ho, rfl, rfl, rfl, ?_, ?_⟩
      · unfold setF; rw [hg' id (.inr (.inl (by simp))), hg]
      · intro id' h
        rcases h with h | h
        · have : id' = id := by simpa using h
          simp only [hset, this, if_true]
        · exact absurd h (by simp only [New]; omega)
      · intro id' hw _
        have : id' ≠ id := by simpa using hw
        simp only [hset, this, if_false]
def setB (id : Nat) (b : Blk) : M Unit := ⟨setF id (some b), loc_set id (some b)⟩
def kill (id : Nat) : M Unit := ⟨setF id none, loc_set id none⟩
def newF (b : Blk) (s : St) : Res Nat := .ok s.next { s with heap := s.heap.put s.next (some b), next := s.next + 1 }
theorem loc_new (b : Blk) : Loc (newF b) := by
  intro s a s' h
  unfold newF at h
  injection h with h1 h2
  subst h1; subst h2
  have hset := fun (t : Tr) => Tr.get_put t s.next (some b)
  refine ⟨[], [], [], ⟨by simp, rfl, rfl, rfl, ?_, fun _ h => (by cases h), ?_, fun h => h, fun _ h => (by cases h)⟩⟩
  · intro id' _ hn
    have : id' ≠ s.next := fun e => hn ⟨by omega, by simp; omega⟩
    simp only [hset, this, if_false]
  · intro t hn ho hg'
    refine ⟨{ t with heap := t.heap.put s.next (some b), next := s.next + 1 }, ?_, rfl, ho, rfl, rfl, rfl, ?_, ?_⟩
    · unfold newF; rw [hn]
    · intro id' h
      rcases h with h | h
      · cases h
      · have : id' = s.next := by have := h.1; have := h.2; simp only at *; omega
        simp only [hset, this, if_true]
    · intro id' _ hn'
      have : id' ≠ s.next := fun e => hn' ⟨by omega, by simp; omega⟩
      simp only [hset, this, if_false]
def newB (b : Blk) : M Nat := ⟨newF b, loc_new b⟩
/-- It is owed that b: b is looked at at once. -/
def obF (b : Bool) (s : St) : Res Unit :=
  match b with
  | true => .ok () s
  | false => .ok () { s with obs := false :: s.obs }
theorem loc_ob (b : Bool) : Loc (obF b) := by
  intro s a s' h
  cases b with
  | true =>
    injection h with h1 h2
    subst h2
    exact ⟨[], [], [], ⟨Nat.le_refl _, rfl, rfl, rfl, fun _ _ _ => rfl, fun _ h => (by cases h), fun t hn ho hg =>
      ⟨t, rfl, hn, ho, rfl, rfl, rfl, fun id hid => hg id (.inr hid), fun _ _ _ => rfl⟩, fun h => h, fun _ h => (by cases h)⟩⟩
  | false =>
    injection h with h1 h2
    subst h2
    exact ⟨[], [], [false], ⟨Nat.le_refl _, rfl, rfl, rfl, fun _ _ _ => rfl, fun _ h => (by cases h), fun t hn ho hg =>
      ⟨{ t with obs := false :: t.obs }, rfl, hn, ho, rfl, rfl, rfl, fun id hid => hg id (.inr hid), fun _ _ _ => rfl⟩, fun h => h, fun _ h => (by cases h)⟩⟩
def ob (b : Bool) : M Unit := ⟨obF b, loc_ob b⟩
def askF (b : Bool) (s : St) : Res Bool :=
  match s.orc with
  | none => .ok b s
  | some [] => .ask b
  | some (o :: os) => .ok o { s with orc := some os, obs := (b == o) :: s.obs }
theorem loc_ask (b : Bool) : Loc (askF b) := by
  intro s a s' h
  unfold askF at h
  cases ho : s.orc with
  | none =>
    rw [ho] at h
    injection h with h1 h2
    subst h1; subst h2
    exact ⟨[], [], [], ⟨Nat.le_refl _, rfl, rfl, rfl, fun _ _ _ => rfl, fun _ h => (by cases h), fun t hn ho' hg =>
      ⟨t, by unfold askF; rw [ho', ho], hn, ho', rfl, rfl, rfl, fun id hid => hg id (.inr hid), fun _ _ _ => rfl⟩, fun h => h, fun _ h => (by cases h)⟩⟩
  | some l =>
    rw [ho] at h
    cases l with
    | nil => cases h
    | cons x xs =>
      injection h with h1 h2
      subst h1; subst h2
      exact ⟨[], [], [b == x], ⟨Nat.le_refl _, rfl, rfl, rfl, fun _ _ _ => rfl, fun _ h => (by cases h), fun t hn ho' hg =>
        ⟨{ t with orc := some xs, obs := (b == x) :: t.obs }, by unfold askF; rw [ho', ho], hn, rfl, rfl, rfl, rfl, fun id hid => hg id (.inr hid), fun _ _ _ => rfl⟩, (fun h => by rw [ho] at h; cases h), fun _ h => (by cases h)⟩⟩
def ask (b : Bool) : M Bool := ⟨askF b, loc_ask b⟩
/-- A test: by its own value; where there is an oracle, by its next bit, and it is owed that the test says so. -/
def branch : AVal → M Bool
  | .blit b => M.pure b
  | .bool b => ask b
  | _ => fail "bool expected"
/-- An action of which only what it did to what was there is kept apart: for a region's operations. -/
def st0 : St := { heap := .nil, next := 0, rds := [], wrs := [], obs := [], orc := none }
end Go.Am
