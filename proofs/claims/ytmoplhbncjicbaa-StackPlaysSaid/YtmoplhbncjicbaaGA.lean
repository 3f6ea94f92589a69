/- What the statement reaches, gone through; and the abstract machine that goes through it. -/
import GoSem.Dispatch
import GoSem.Machine.Frame
import Derived.RangeFuncIn
import Derived.OrdersIn
import Derived.RangeFuncLeaves
import Derived.TacticsIn
import Derived.Laws.Sem
import Derived.Laws.World
import Derived.Laws.Cells
import Derived.Laws.Entries
import Derived.Laws.NewFold
import Derived.Lib.AppendZerosOnto
import Derived.Laws.BytesArg
import Derived.Laws.IdiomStrings
import Derived.Laws.StructEq
set_option linter.unusedSimpArgs false
set_option linter.unusedVariables false
namespace Go.Am
open Go
inductive AVal where
 | bool (b : Bool)
 | blit (b : Bool)
 | int (k : IntKind) (n : Int)
 | str (l : List UInt8)
 | nilp | nils | nilm | nilf | nili
 | emp
 | ptr (id off : Nat)
 | sl (id off len : Nat) (cap : Option Nat) (sz : Nat)
 | ip (f : Nat → AVal) (n off : Nat)
 | isl (f : Nat → AVal) (sz off len : Nat)
 | fn (f : Fn) (first cap : List AVal)
 | agg (l : List AVal)
 | tup (l : List AVal)
 | map (id : Nat)
 | junk
instance : Inhabited AVal := ⟨.junk⟩
mutual
def ofValue : Value → AVal
 | .bool b => .bool b
 | .int k n => .int k n
 | .string s => .str s.data.toList
 | .pointer none => .nilp
 | .slice none 0 0 => .nils
 | .map none => .nilm
 | .nilFunc => .nilf
 | .nilIface => .nili
 | .agg c => .agg (ofArr c)
 | .tuple c => .tup (ofArr c)
 | _ => .junk
def ofArr : Array Value → List AVal
 | ⟨l⟩ => ofList l
def ofList : List Value → List AVal
 | [] => []
 | v :: l => ofValue v :: ofList l
end
def AVal.cells : AVal → List AVal
 | .agg l => l
 | v => [v]
def undef : AVal := .tup []
def nth : List AVal → Nat → AVal → AVal
 | [], _, d => d
 | a :: _, 0, _ => a
 | _ :: l, n + 1, d => nth l n d
def put : List AVal → Nat → AVal → List AVal
 | [], _, _ => []
 | _ :: l, 0, v => v :: l
 | a :: l, n + 1, v => a :: put l n v
inductive Cont where
 | l (xs : List AVal)
 | f (n : Nat) (g : Nat → AVal)
def Cont.size : Cont → Nat
 | .l xs => xs.length
 | .f n _ => n
def Cont.at : Cont → Nat → AVal
 | .l xs, i => nth xs i .junk
 | .f _ g, i => g i
def Cont.set (c : Cont) (i : Nat) (v : AVal) : Cont :=
 match c with
 | .l xs => .l (put xs i v)
 | .f n g => .f n fun k => match k.beq i with | true => v | false => g k
def cellsOf (g : Nat → AVal) (off : Nat) : Nat → List AVal
 | 0 => []
 | n + 1 => g off :: cellsOf g (off + 1) n
def Cont.sub (c : Cont) (off n : Nat) : List AVal :=
 match c with
 | .l xs => (xs.drop off).take n
 | .f _ g => cellsOf g off n
structure ALoop where
 state : LoopState
 pending : Option Code
 fn : FuncId
 tmps : List AVal
 params : List Tmp
 assign : Code
 body : Code
inductive Blk where
 | row (c : Cont) (elem : TypeId)
 | loop (l : ALoop)
 | siter (s : List UInt8) (pos : Nat)
 | map (es : List (AVal × AVal × Nat)) (ck : Nat)
 | miter (m since : Nat) (seen : List Nat) (last : Nat)
inductive Tr where
 | nil
 | fn (g : Nat → Option Blk)
 | node (l : Tr) (v : Option Blk) (r : Tr)
def Tr.get : Tr → Nat → Option Blk
 | .nil, _ => none
 | .fn g, n => g n
 | .node l v r, n => match n with
  | 0 => v
  | n + 1 => match (n % 2).beq 0 with
   | true => l.get (n / 2)
   | false => r.get (n / 2)
def Tr.left : Tr → Tr
 | .nil => .nil
 | .fn g => .fn fun n => g (2 * n + 1)
 | .node l _ _ => l
def Tr.val : Tr → Option Blk
 | .nil => none
 | .fn g => g 0
 | .node _ v _ => v
def Tr.right : Tr → Tr
 | .nil => .nil
 | .fn g => .fn fun n => g (2 * n + 2)
 | .node _ _ r => r
def Tr.set : (fuel : Nat) → Tr → Nat → Option Blk → Tr
 | 0, t, _, _ => t
 | k + 1, t, n, b => match n with
   | 0 => .node t.left b t.right
   | n + 1 => match (n % 2).beq 0 with
    | true => .node (Tr.set k t.left (n / 2) b) t.val t.right
    | false => .node t.left t.val (Tr.set k t.right (n / 2) b)
theorem Tr.get_left (t : Tr) (n : Nat) : t.left.get n = t.get (2 * n + 1) := by
 cases t with
 | nil => simp [Tr.left, Tr.get]
 | fn g => simp [Tr.left, Tr.get]
 | node l v r =>
  simp only [Tr.left, Tr.get]
  have h1 : 2 * n % 2 = 0 := by omega
  have h2 : 2 * n / 2 = n := by omega
  rw [h1, h2]
theorem Tr.get_right (t : Tr) (n : Nat) : t.right.get n = t.get (2 * n + 2) := by
 cases t with
 | nil => simp [Tr.right, Tr.get]
 | fn g => simp [Tr.right, Tr.get]
 | node l v r =>
  simp only [Tr.right, Tr.get]
  have h1 : (2 * n + 1) % 2 = 1 := by omega
  have h2 : (2 * n + 1) / 2 = n := by omega
  rw [h1, h2]
theorem Tr.get_zero (t : Tr) : t.val = t.get 0 := by cases t <;> rfl
theorem Tr.get_set : ∀ (k : Nat) (t : Tr) (n : Nat) (b : Option Blk), n + 1 < 2 ^ k → ∀ j, (Tr.set k t n b).get j = if j = n then b else t.get j := by
 intro k
 induction k with
 | zero => intro t n b h; simp at h
 | succ k ih =>
  intro t n b h j
  cases n with
  | zero =>
   simp only [Tr.set]
   cases j with
   | zero => simp [Tr.get]
   | succ j =>
    simp only [Tr.get]
    rcases Nat.mod_two_eq_zero_or_one j with hj | hj
    ·rw [hj]; simp only [Nat.beq_refl]
     rw [Tr.get_left]
     have : 2 * (j / 2) + 1 = j + 1 := by omega
     rw [this]; simp
    ·rw [hj]; simp only [show (1 : Nat).beq 0 = false from rfl]
     rw [Tr.get_right]
     have : 2 * (j / 2) + 2 = j + 1 := by omega
     rw [this]; simp
  | succ n =>
   simp only [Tr.set]
   rcases Nat.mod_two_eq_zero_or_one n with hn | hn
   ·rw [hn]; simp only [Nat.beq_refl]
    have ih' := ih t.left (n / 2) b (by rw [Nat.pow_succ] at h; omega)
    cases j with
    | zero => simp [Tr.get, Tr.get_zero]
    | succ j =>
     simp only [Tr.get]
     rcases Nat.mod_two_eq_zero_or_one j with hj | hj
     ·rw [hj]; simp only [Nat.beq_refl]
      rw [ih' (j / 2), Tr.get_left]
      have : 2 * (j / 2) + 1 = j + 1 := by omega
      rw [this]
      by_cases e : j = n
      ·subst e; simp
      ·have : j / 2 ≠ n / 2 := by omega
       simp [e, this]
     ·rw [hj]; simp only [show (1 : Nat).beq 0 = false from rfl]
      rw [Tr.get_right]
      have : 2 * (j / 2) + 2 = j + 1 := by omega
      rw [this]
      have : j ≠ n := by omega
      simp [this]
   ·rw [hn]; simp only [show (1 : Nat).beq 0 = false from rfl]
    have ih' := ih t.right (n / 2) b (by rw [Nat.pow_succ] at h; omega)
    cases j with
    | zero => simp [Tr.get, Tr.get_zero]
    | succ j =>
     simp only [Tr.get]
     rcases Nat.mod_two_eq_zero_or_one j with hj | hj
     ·rw [hj]; simp only [Nat.beq_refl]
      rw [Tr.get_left]
      have : 2 * (j / 2) + 1 = j + 1 := by omega
      rw [this]
      have : j ≠ n := by omega
      simp [this]
     ·rw [hj]; simp only [show (1 : Nat).beq 0 = false from rfl]
      rw [ih' (j / 2), Tr.get_right]
      have : 2 * (j / 2) + 2 = j + 1 := by omega
      rw [this]
      by_cases e : j = n
      ·subst e; simp
      ·have : j / 2 ≠ n / 2 := by omega
       simp [e, this]
structure St where
 heap : Tr
 next : Nat
 rds : List Nat
 wrs : List Nat
 obs : List Bool
 orc : Option (List Bool)
inductive Res (α : Type) where
 | ok (a : α) (s : St)
 | fail (why : String)
 | ask (b : Bool)
def New (s s' : St) (id : Nat) : Prop := s.next ≤ id ∧ id < s'.next
structure Did {α : Type} (f : St → Res α) (s : St) (a : α) (s' : St) (r w : List Nat) (o : List Bool) : Prop where
 next : s.next ≤ s'.next
 rds : s'.rds = r ++ s.rds
 wrs : s'.wrs = w ++ s.wrs
 obs : s'.obs = o ++ s.obs
 rest : ∀ id, id ∉ w → ¬ New s s' id → s'.heap.get id = s.heap.get id
 live : ∀ id, id ∈ w → s.heap.get id ≠ none ∨ New s s' id
 again : ∀ t : St, t.next = s.next → t.orc = s.orc → (∀ id, id ∈ r ∨ id ∈ w ∨ New s s' id → t.heap.get id = s.heap.get id) →
  ∃ t', f t = .ok a t' ∧ t'.next = s'.next ∧ t'.orc = s'.orc ∧ t'.rds = r ++ t.rds ∧ t'.wrs = w ++ t.wrs ∧ t'.obs = o ++ t.obs ∧
   (∀ id, id ∈ w ∨ New s s' id → t'.heap.get id = s'.heap.get id) ∧ (∀ id, id ∉ w → ¬ New s s' id → t'.heap.get id = t.heap.get id)
 orc : s.orc = none → s'.orc = none
 rlive : ∀ id, id ∈ r → s.heap.get id ≠ none ∨ New s s' id
def Loc {α : Type} (f : St → Res α) : Prop := ∀ s a s', f s = .ok a s' → ∃ r w o, Did f s a s' r w o
structure M (α : Type) where
 run : St → Res α
 loc : Loc run
theorem loc_pure {α : Type} (a : α) : Loc (fun s => Res.ok a s) := by
 intro s a' s' h
 injection h with h1 h2
 subst h1; subst h2
 exact ⟨[], [], [], ⟨Nat.le_refl _, rfl, rfl, rfl, fun _ _ _ => rfl, fun _ h => (by cases h), fun t hn ho hg =>
  ⟨t, rfl, hn, ho, rfl, rfl, rfl, fun id hid => hg id (.inr hid), fun _ _ _ => rfl⟩, id, fun _ h => (by cases h)⟩⟩
def M.pure {α : Type} (a : α) : M α := ⟨fun s => .ok a s, loc_pure a⟩
theorem loc_none {α : Type} {f : St → Res α} (h : ∀ s a s', f s ≠ .ok a s') : Loc f := fun s a s' e => absurd e (h s a s')
def fail {α : Type} (why : String) : M α := ⟨fun _ => .fail why, loc_none (fun _ _ _ h => by cases h)⟩
def bindF {α β : Type} (m : St → Res α) (f : α → M β) (s : St) : Res β :=
 match m s with
 | .ok a s => (f a).run s
 | .fail w => .fail w
 | .ask b => .ask b
theorem loc_bind {α β : Type} (m : M α) (f : α → M β) : Loc (bindF m.run f) := by
 intro s b s2 h
 unfold bindF at h
 cases hm : m.run s with
 | fail w => rw [hm] at h; cases h
 | ask b => rw [hm] at h; cases h
 | ok a s1 =>
  rw [hm] at h
  simp only at h
  obtain ⟨r1, w1, o1, d1⟩ := m.loc s a s1 hm
  obtain ⟨r2, w2, o2, d2⟩ := (f a).loc s1 b s2 h
  have n1 := d1.next
  have n2 := d2.next
  have fresh1 : ∀ id, New s s1 id → New s s2 id := fun id hid => ⟨hid.1, by have := hid.2; omega⟩
  have fresh2 : ∀ id, New s1 s2 id → New s s2 id := fun id hid => ⟨by have := hid.1; omega, hid.2⟩
  have split : ∀ id, New s s2 id → New s s1 id ∨ New s1 s2 id := fun id hid => by
   by_cases hlt : id < s1.next
   ·exact .inl ⟨hid.1, hlt⟩
   ·exact .inr ⟨by omega, hid.2⟩
  refine ⟨r2 ++ r1, w2 ++ w1, o2 ++ o1, ⟨by omega, by rw [d2.rds, d1.rds, List.append_assoc], by rw [d2.wrs, d1.wrs, List.append_assoc], by rw [d2.obs, d1.obs, List.append_assoc], ?_, ?_, ?_, fun h => d2.orc (d1.orc h), ?_⟩⟩
  ·intro id hw hn
   simp only [List.mem_append, not_or] at hw
   rw [d2.rest id hw.1 (fun x => hn (fresh2 id x)), d1.rest id hw.2 (fun x => hn (fresh1 id x))]
  ·intro id hw
   simp only [List.mem_append] at hw
   by_cases h1 : New s s1 id
   ·exact .inr (fresh1 id h1)
   by_cases hw1 : id ∈ w1
   ·rcases d1.live id hw1 with h | h
    ·exact .inl h
    ·exact .inr (fresh1 id h)
   rcases hw with hw | hw
   ·rcases d2.live id hw with h | h
    ·rw [d1.rest id hw1 h1] at h
     exact .inl h
    ·exact .inr (fresh2 id h)
   ·exact absurd hw hw1
  ·intro t hn ho hg
   obtain ⟨t1, e1, hn1, ho1, hr1, hw1, hob1, hg1, hk1⟩ := d1.again t hn ho (fun id hid => hg id (by
    rcases hid with h | h | h
    ·exact .inl (List.mem_append.2 (.inr h))
    ·exact .inr (.inl (List.mem_append.2 (.inr h)))
    ·exact .inr (.inr (fresh1 id h))))
   obtain ⟨t2, e2, hn2, ho2, hr2, hw2, hob2, hg2, hk2⟩ := d2.again t1 hn1 ho1 (fun id hid => by
    by_cases hc : id ∈ w1 ∨ New s s1 id
    ·exact hg1 id hc
    ·simp only [not_or] at hc
     rw [hk1 id hc.1 hc.2, d1.rest id hc.1 hc.2]
     refine hg id ?_
     rcases hid with h | h | h
     ·exact .inl (List.mem_append.2 (.inl h))
     ·exact .inr (.inl (List.mem_append.2 (.inl h)))
     ·exact .inr (.inr (fresh2 id h)))
   refine ⟨t2, ?_, hn2, ho2, by rw [hr2, hr1, List.append_assoc], by rw [hw2, hw1, List.append_assoc], by rw [hob2, hob1, List.append_assoc], ?_, ?_⟩
   ·unfold bindF; rw [e1]; exact e2
   ·intro id hid
    by_cases hc : id ∈ w2 ∨ New s1 s2 id
    ·exact hg2 id hc
    ·simp only [not_or] at hc
     rw [hk2 id hc.1 hc.2, d2.rest id hc.1 hc.2]
     refine hg1 id ?_
     rcases hid with h | h
     ·rcases List.mem_append.1 h with h | h
      ·exact absurd h hc.1
      ·exact .inl h
     ·rcases split id h with h | h
      ·exact .inr h
      ·exact absurd h hc.2
   ·intro id hw hnw
    simp only [List.mem_append, not_or] at hw
    rw [hk2 id hw.1 (fun x => hnw (fresh2 id x)), hk1 id hw.2 (fun x => hnw (fresh1 id x))]
  ·intro id hr
   simp only [List.mem_append] at hr
   by_cases h1 : New s s1 id
   ·exact .inr (fresh1 id h1)
   rcases hr with hr | hr
   ·by_cases hw1 : id ∈ w1
    ·rcases d1.live id hw1 with h | h
     ·exact .inl h
     ·exact .inr (fresh1 id h)
    ·rcases d2.rlive id hr with h | h
     ·rw [d1.rest id hw1 h1] at h
      exact .inl h
     ·exact .inr (fresh2 id h)
   ·rcases d1.rlive id hr with h | h
    ·exact .inl h
    ·exact .inr (fresh1 id h)
def M.bind {α β : Type} (m : M α) (f : α → M β) : M β := ⟨bindF m.run f, loc_bind m f⟩
theorem M.bind_ok {α β : Type} {m : M α} {f : α → M β} {s : St} {b : β} {s2 : St} (h : (m.bind f).run s = .ok b s2) :
  ∃ a s1, m.run s = .ok a s1 ∧ (f a).run s1 = .ok b s2 := by
 simp only [M.bind, bindF] at h
 cases hm : m.run s with
 | fail w => rw [hm] at h; cases h
 | ask b => rw [hm] at h; cases h
 | ok a s1 => rw [hm] at h; exact ⟨a, s1, rfl, h⟩
def Tr.put (t : Tr) (n : Nat) (b : Option Blk) : Tr := Tr.set (Nat.log2 (n + 1) + 1) t n b
theorem Tr.get_put (t : Tr) (n : Nat) (b : Option Blk) (j : Nat) : (t.put n b).get j = if j = n then b else t.get j := Tr.get_set _ t n b Nat.lt_log2_self j
def getF (id : Nat) (s : St) : Res Blk :=
 match s.heap.get id with
 | some b => .ok b { s with rds := id :: s.rds }
 | none => .fail "no such block"
theorem loc_get (id : Nat) : Loc (getF id) := by
 intro s a s' h
 unfold getF at h
 cases hg : s.heap.get id with
 | none => rw [hg] at h; cases h
 | some b =>
  rw [hg] at h
  injection h with h1 h2
  subst h1; subst h2
  refine ⟨[id], [], [], ⟨Nat.le_refl _, rfl, rfl, rfl, fun _ _ _ => rfl, fun _ h => (by cases h), fun t hn ho hg' => ?_, fun h => h, fun id' hr => ?_⟩⟩
  ·refine ⟨{ t with rds := id :: t.rds }, ?_, hn, ho, rfl, rfl, rfl, fun id' h => ?_, fun _ _ _ => rfl⟩
   ·unfold getF; rw [hg' id (.inl (by simp)), hg]
   ·exact hg' id' (.inr h)
  ·have : id' = id := by simpa using hr
   subst this
   left; rw [hg]; simp
def getB (id : Nat) : M Blk := ⟨getF id, loc_get id⟩
def setF (id : Nat) (b : Option Blk) (s : St) : Res Unit :=
 match s.heap.get id with
 | none => .fail "no such block to set"
 | some _ => .ok () { s with heap := s.heap.put id b, wrs := id :: s.wrs }
theorem loc_set (id : Nat) (b : Option Blk) : Loc (setF id b) := by
 intro s a s' h
 unfold setF at h
 cases hg : s.heap.get id with
 | none => rw [hg] at h; cases h
 | some b0 =>
  rw [hg] at h
  injection h with _ h2
  subst h2
  have hset := fun (t : Tr) => Tr.get_put t id b
  refine ⟨[], [id], [], ⟨Nat.le_refl _, rfl, rfl, rfl, ?_, ?_, ?_, fun h => h, fun _ h => (by cases h)⟩⟩
  ·intro id' hw _
   have : id' ≠ id := by simpa using hw
   simp only [hset, this, if_false]
  ·intro id' hw
   have : id' = id := by simpa using hw
   subst this
   left; rw [hg]; simp
  ·intro t hn ho hg'
   refine ⟨{ t with heap := t.heap.put id b, wrs := id :: t.wrs }, ?_, hn, ho, rfl, rfl, rfl, ?_, ?_⟩
   ·unfold setF; rw [hg' id (.inr (.inl (by simp))), hg]
   ·intro id' h
    rcases h with h | h
    ·have : id' = id := by simpa using h
     simp only [hset, this, if_true]
    ·exact absurd h (by simp only [New]; omega)
   ·intro id' hw _
    have : id' ≠ id := by simpa using hw
    simp only [hset, this, if_false]
def setB (id : Nat) (b : Blk) : M Unit := ⟨setF id (some b), loc_set id (some b)⟩
def kill (id : Nat) : M Unit := ⟨setF id none, loc_set id none⟩
def newF (b : Blk) (s : St) : Res Nat := .ok s.next { s with heap := s.heap.put s.next (some b), next := s.next + 1 }
theorem loc_new (b : Blk) : Loc (newF b) := by
 intro s a s' h
 unfold newF at h
 injection h with h1 h2
 subst h1; subst h2
 have hset := fun (t : Tr) => Tr.get_put t s.next (some b)
 refine ⟨[], [], [], ⟨by simp, rfl, rfl, rfl, ?_, fun _ h => (by cases h), ?_, fun h => h, fun _ h => (by cases h)⟩⟩
 ·intro id' _ hn
  have : id' ≠ s.next := fun e => hn ⟨by omega, by simp; omega⟩
  simp only [hset, this, if_false]
 ·intro t hn ho hg'
  refine ⟨{ t with heap := t.heap.put s.next (some b), next := s.next + 1 }, ?_, rfl, ho, rfl, rfl, rfl, ?_, ?_⟩
  ·unfold newF; rw [hn]
  ·intro id' h
   rcases h with h | h
   ·cases h
   ·have : id' = s.next := by have := h.1; have := h.2; simp only at *; omega
    simp only [hset, this, if_true]
  ·intro id' _ hn'
   have : id' ≠ s.next := fun e => hn' ⟨by omega, by simp; omega⟩
   simp only [hset, this, if_false]
def newB (b : Blk) : M Nat := ⟨newF b, loc_new b⟩
def obF (b : Bool) (s : St) : Res Unit :=
 match b with
 | true => .ok () s
 | false => .ok () { s with obs := false :: s.obs }
theorem loc_ob (b : Bool) : Loc (obF b) := by
 intro s a s' h
 cases b with
 | true =>
  injection h with h1 h2
  subst h2
  exact ⟨[], [], [], ⟨Nat.le_refl _, rfl, rfl, rfl, fun _ _ _ => rfl, fun _ h => (by cases h), fun t hn ho hg =>
   ⟨t, rfl, hn, ho, rfl, rfl, rfl, fun id hid => hg id (.inr hid), fun _ _ _ => rfl⟩, fun h => h, fun _ h => (by cases h)⟩⟩
 | false =>
  injection h with h1 h2
  subst h2
  exact ⟨[], [], [false], ⟨Nat.le_refl _, rfl, rfl, rfl, fun _ _ _ => rfl, fun _ h => (by cases h), fun t hn ho hg =>
   ⟨{ t with obs := false :: t.obs }, rfl, hn, ho, rfl, rfl, rfl, fun id hid => hg id (.inr hid), fun _ _ _ => rfl⟩, fun h => h, fun _ h => (by cases h)⟩⟩
def ob (b : Bool) : M Unit := ⟨obF b, loc_ob b⟩
def askF (b : Bool) (s : St) : Res Bool :=
 match s.orc with
 | none => .ok b s
 | some [] => .ask b
 | some (o :: os) => .ok o { s with orc := some os, obs := (b == o) :: s.obs }
theorem loc_ask (b : Bool) : Loc (askF b) := by
 intro s a s' h
 unfold askF at h
 cases ho : s.orc with
 | none =>
  rw [ho] at h
  injection h with h1 h2
  subst h1; subst h2
  exact ⟨[], [], [], ⟨Nat.le_refl _, rfl, rfl, rfl, fun _ _ _ => rfl, fun _ h => (by cases h), fun t hn ho' hg =>
   ⟨t, by unfold askF; rw [ho', ho], hn, ho', rfl, rfl, rfl, fun id hid => hg id (.inr hid), fun _ _ _ => rfl⟩, fun h => h, fun _ h => (by cases h)⟩⟩
 | some l =>
  rw [ho] at h
  cases l with
  | nil => cases h
  | cons x xs =>
   injection h with h1 h2
   subst h1; subst h2
   exact ⟨[], [], [b == x], ⟨Nat.le_refl _, rfl, rfl, rfl, fun _ _ _ => rfl, fun _ h => (by cases h), fun t hn ho' hg =>
    ⟨{ t with orc := some xs, obs := (b == x) :: t.obs }, by unfold askF; rw [ho', ho], hn, rfl, rfl, rfl, rfl, fun id hid => hg id (.inr hid), fun _ _ _ => rfl⟩, (fun h => by rw [ho] at h; cases h), fun _ h => (by cases h)⟩⟩
def ask (b : Bool) : M Bool := ⟨askF b, loc_ask b⟩
def branch : AVal → M Bool
 | .blit b => M.pure b
 | .bool b => ask b
 | _ => fail "bool expected"
end Go.Am
set_option linter.unusedSimpArgs false
set_option linter.unusedVariables false
namespace Go.Am
open Go
structure RB where
 b : Nat
 n : Nat
 s : Nat
abbrev Ren := Nat → Option RB
abbrev Mem := Nat → Option Obj
def Mem.cell (m : Mem) (b off : Nat) : Option Value :=
 match m b with
 | some (.cells c _ _) => c[off]?
 | _ => none
inductive RF (ρ : Ren) : Fn → Fn → Prop
 | func (f : FuncId) : RF ρ (.func f) (.func f)
 | yield (id : Nat) (r : RB) (h : ρ id = some r) : RF ρ (.yield id) (.yield r.b)
inductive R (ρ : Ren) (m : Mem) : AVal → Value → Prop
 | bool (b : Bool) : R ρ m (.bool b) (.bool b)
 | blit (b : Bool) : R ρ m (.blit b) (.bool b)
 | int (k : IntKind) (n : Int) : R ρ m (.int k n) (.int k n)
 | str (l : List UInt8) : R ρ m (.str l) (.string ⟨⟨l⟩⟩)
 | nilp : R ρ m .nilp (.pointer none)
 | nils : R ρ m .nils (.slice none 0 0)
 | nilm : R ρ m .nilm (.map none)
 | nilf : R ρ m .nilf .nilFunc
 | nili : R ρ m .nili .nilIface
 | emp (a : Option Addr) : R ρ m .emp (.slice a 0 0)
 | ptr (id off : Nat) (r : RB) (h : ρ id = some r) : R ρ m (.ptr id off) (.pointer (some ⟨r.b, off, none⟩))
 | slx (id off len c sz : Nat) (r : RB) (h : ρ id = some r) (hl : len ≤ c) : R ρ m (.sl id off len (some c) sz) (.slice (some ⟨r.b, off, none⟩) len c)
 | slw (id off len c sz : Nat) (r : RB) (h : ρ id = some r) (hl : len ≤ c) (hs : r.s = sz) (hc : off + c * sz = r.n) : R ρ m (.sl id off len none sz) (.slice (some ⟨r.b, off, none⟩) len c)
 | sl0 (id off sz : Nat) (cap : Option Nat) (a : Addr) (hc : ∀ k, cap = some k → k = 0) (hn : cap = none → ∃ r, ρ id = some r ∧ r.n ≤ off) : R ρ m (.sl id off 0 cap sz) (.slice (some a) 0 0)
 | ip (f : Nat → AVal) (n off b o : Nat) (g : Nat → Value) (hg : ∀ j, j < n → m.cell b (o + j) = some (g j)) (hr : ∀ j, j < n → R ρ m (f j) (g j)) : R ρ m (.ip f n off) (.pointer (some ⟨b, o + off, none⟩))
 | isl (f : Nat → AVal) (sz off len b o c : Nat) (g : Nat → Value) (hg : ∀ j, j < off + len * sz → m.cell b (o + j) = some (g j)) (hr : ∀ j, j < off + len * sz → R ρ m (f j) (g j)) (hl : len ≤ c) : R ρ m (.isl f sz off len) (.slice (some ⟨b, o + off, none⟩) len c)
 | isl0 (f : Nat → AVal) (sz off c : Nat) (a : Addr) : R ρ m (.isl f sz off 0) (.slice (some a) 0 c)
 | fn (f f' : Fn) (x y : List AVal) (x' y' : Array Value) (hf : RF ρ f f') (hx : x.length = x'.size) (hy : y.length = y'.size)
   (rx : ∀ (i : Nat) v u, x[i]? = some v → x'[i]? = some u → R ρ m v u) (ry : ∀ (i : Nat) v u, y[i]? = some v → y'[i]? = some u → R ρ m v u) : R ρ m (.fn f x y) (.func f' x' y')
 | agg (l : List AVal) (c : Array Value) (hl : l.length = c.size) (hr : ∀ (i : Nat) v x, l[i]? = some v → c[i]? = some x → R ρ m v x) : R ρ m (.agg l) (.agg c)
 | tup (l : List AVal) (c : Array Value) (hl : l.length = c.size) (hr : ∀ (i : Nat) v x, l[i]? = some v → c[i]? = some x → R ρ m v x) : R ρ m (.tup l) (.tuple c)
 | map (id : Nat) (r : RB) (h : ρ id = some r) : R ρ m (.map id) (.map (some r.b))
 | junk (x : Value) : R ρ m .junk x
structure RL (ρ : Ren) (m : Mem) (l : List AVal) (c : Array Value) : Prop where
 len : l.length = c.size
 at_ : ∀ (i : Nat) v x, l[i]? = some v → c[i]? = some x → R ρ m v x
structure MLe (m m' : Mem) : Prop where
 le : ∀ b c t f, m b = some (.cells c t f) → m' b = some (.cells c t f)
theorem Mem.cell_le {m m' : Mem} (h : MLe m m') {b off : Nat} {v : Value} (hc : m.cell b off = some v) : m'.cell b off = some v := by
 unfold Mem.cell at *
 cases hb : m b with
 | none => rw [hb] at hc; cases hc
 | some o =>
  cases o with
  | cells c t f => rw [hb] at hc; rw [h.le b c t f hb]; exact hc
  | _ => rw [hb] at hc; cases hc
def RenLe (ρ ρ' : Ren) : Prop := ∀ id r, ρ id = some r → ρ' id = some r
theorem RF.mono {ρ ρ' : Ren} (h : RenLe ρ ρ') {f f' : Fn} (hf : RF ρ f f') : RF ρ' f f' := by
 cases hf with
 | func f => exact .func f
 | yield id r hr => exact .yield id r (h id r hr)
theorem R.mono {ρ ρ' : Ren} {m m' : Mem} (h : RenLe ρ ρ') (hm : MLe m m') {v : AVal} {x : Value} (hr : R ρ m v x) : R ρ' m' v x := by
 induction hr with
 | bool b => exact .bool b
 | blit b => exact .blit b
 | int k n => exact .int k n
 | str l => exact .str l
 | nilp => exact .nilp
 | nils => exact .nils
 | nilm => exact .nilm
 | nilf => exact .nilf
 | nili => exact .nili
 | emp a => exact .emp a
 | ptr id off r hid => exact .ptr id off r (h id r hid)
 | slx id off len c sz r hid hl => exact .slx id off len c sz r (h id r hid) hl
 | slw id off len c sz r hid hl hs hc => exact .slw id off len c sz r (h id r hid) hl hs hc
 | sl0 id off sz cap a hc hn => exact .sl0 id off sz cap a hc (fun e => by obtain ⟨r, h1, h2⟩ := hn e; exact ⟨r, h id r h1, h2⟩)
 | ip f n off b o g hg hr ih => exact .ip f n off b o g (fun j hj => Mem.cell_le hm (hg j hj)) ih
 | isl f sz off len b o c g hg hr hl ih => exact .isl f sz off len b o c g (fun j hj => Mem.cell_le hm (hg j hj)) ih hl
 | isl0 f sz off c a => exact .isl0 f sz off c a
 | fn f f' x y x' y' hf hx hy rx ry ihx ihy => exact .fn f f' x y x' y' (hf.mono h) hx hy ihx ihy
 | agg l c hl hr ih => exact .agg l c hl ih
 | tup l c hl hr ih => exact .tup l c hl ih
 | map id r hid => exact .map id r (h id r hid)
 | junk x => exact .junk x
theorem RL.mono {ρ ρ' : Ren} {m m' : Mem} (h : RenLe ρ ρ') (hm : MLe m m') {l : List AVal} {c : Array Value} (hr : RL ρ m l c) : RL ρ' m' l c :=
 ⟨hr.len, fun i v x hv hx => (hr.at_ i v x hv hx).mono h hm⟩
def FrOk (P : Program) (t : TypeId) (fr : Nat × Nat) (n : Nat) : Prop := fr.1 = fr.2 ∨ (n ≤ fr.1 ∧ P.underlying t = some (.int .u8))
theorem FrOk.out {P : Program} {t : TypeId} {fr : Nat × Nat} {n : Nat} (h : FrOk P t fr n) : ∀ j, j < n → ¬ (fr.1 ≤ j ∧ j < fr.2) := fun j hj ⟨a, b⟩ => by
 rcases h with h | h <;> omega
structure ME (ρ : Ren) (m : Mem) (e : AVal × AVal × Nat) (x : MapEntry) : Prop where
 key : R ρ m e.1 x.key
 val : R ρ m e.2.1 x.val
 born : x.born = e.2.2
inductive BR (P : Program) (ρ : Ren) (m : Mem) : RB → Blk → Obj → Prop
 | row (rb : RB) (c : Cont) (elem : TypeId) (arr : Array Value) (fr : Nat × Nat) (hs : (P.info? elem).map (·.size) = some rb.s) (hn : arr.size = rb.n) (hc : c.size ≤ arr.size)
   (hr : ∀ j x, j < c.size → arr[j]? = some x → R ρ m (c.at j) x) (hf : FrOk P elem fr arr.size) : BR P ρ m rb (.row c elem) (.cells arr elem fr)
 | loop (rb : RB) (l : ALoop) (L : Loop) (h1 : L.state = l.state) (h2 : L.pending = l.pending) (h4 : RL ρ m l.tmps L.tmps) (h5 : L.params.toList = l.params)
   (h6 : L.assign = l.assign) (h7 : L.body = l.body) : BR P ρ m rb (.loop l) (.loop L)
 | siter (rb : RB) (s : List UInt8) (pos : Nat) : BR P ρ m rb (.siter s pos) (.stringIter ⟨⟨s⟩⟩ pos)
 | map (rb : RB) (es : List (AVal × AVal × Nat)) (ck : Nat) (arr : Array MapEntry) (hl : es.length = arr.size) (hr : ∀ (i : Nat) e x, es[i]? = some e → arr[i]? = some x → ME ρ m e x) : BR P ρ m rb (.map es ck) (.map arr ck)
 | miter (rb : RB) (id since : Nat) (seen : List Nat) (last : Nat) (r : RB) (h : ρ id = some r) : BR P ρ m rb (.miter id since seen last) (.mapIter (some r.b) since seen.toArray last)
theorem BR.mono {P : Program} {ρ ρ' : Ren} {m m' : Mem} (h : RenLe ρ ρ') (hm : MLe m m') {rb : RB} {b : Blk} {o : Obj} (hb : BR P ρ m rb b o) : BR P ρ' m' rb b o := by
 cases hb with
 | row c elem arr fr hs hn hc hr hf => exact .row _ c elem arr fr hs hn hc (fun j x hj hx => (hr j x hj hx).mono h hm) hf
 | loop l L h1 h2 h4 h5 h6 h7 => exact .loop _ l L h1 h2 (h4.mono h hm) h5 h6 h7
 | siter s pos => exact .siter _ s pos
 | map es ck arr hl hr => exact .map _ es ck arr hl (fun i e x he hx => ⟨(hr i e x he hx).key.mono h hm, (hr i e x he hx).val.mono h hm, (hr i e x he hx).born⟩)
 | miter id since seen last r hid => exact .miter _ id since seen last r (h id r hid)
structure Rel (P : Program) (ρ : Ren) (m : Mem) (h : Nat → Option Blk) (w : World) : Prop where
 live : ∀ id b, h id = some b → ∃ rb o, ρ id = some rb ∧ w.heap[rb.b]? = some o ∧ BR P ρ m rb b o ∧ m rb.b = none
 inj : ∀ i j b c r r', h i = some b → h j = some c → ρ i = some r → ρ j = some r' → r.b = r'.b → i = j
 mem : ∀ b o, m b = some o → w.heap[b]? = some o
theorem Rel.congr {P : Program} {ρ : Ren} {m : Mem} {h h' : Nat → Option Blk} {w : World} (hr : Rel P ρ m h w) (e : ∀ id, h' id = h id) : Rel P ρ m h' w := by
 have : h' = h := funext e
 rw [this]; exact hr
structure Fr (w w' : World) : Prop where
 os : w'.os = w.os
 tape : w'.tape = w.tape
 output : w'.output = w.output
 size : w.heap.size ≤ w'.heap.size
theorem Fr.refl (w : World) : Fr w w := ⟨rfl, rfl, rfl, Nat.le_refl _⟩
theorem Fr.trans {a b c : World} (h : Fr a b) (h' : Fr b c) : Fr a c := ⟨h'.os.trans h.os, h'.tape.trans h.tape, h'.output.trans h.output, Nat.le_trans h.size h'.size⟩
structure Post (P : Program) (ρ : Ren) (m : Mem) (s : St) (w : World) (ρ' : Ren) (m' : Mem) (s' : St) (w' : World) : Prop where
 ren : RenLe ρ ρ'
 new : ∀ id, ρ' id ≠ none → ρ id ≠ none ∨ New s s' id
 mem : ∀ b o, m b = some o → m' b = some o
 rel : Rel P ρ' m' s'.heap.get w'
 fr : Fr w w'
 next : s.next ≤ s'.next
theorem Post.mle {P : Program} {ρ ρ' : Ren} {m m' : Mem} {s s' : St} {w w' : World} (h : Post P ρ m s w ρ' m' s' w') : MLe m m' := ⟨fun b c t f hb => h.mem b _ hb⟩
def Fresh (ρ : Ren) (s s' : St) : Prop := ∀ id, New s s' id → ρ id = none
theorem Post.trans {P : Program} {ρ ρ1 ρ2 : Ren} {m m1 m2 : Mem} {s s1 s2 : St} {w w1 w2 : World} (a : Post P ρ m s w ρ1 m1 s1 w1) (b : Post P ρ1 m1 s1 w1 ρ2 m2 s2 w2) : Post P ρ m s w ρ2 m2 s2 w2 where
 ren := fun id r h => b.ren id r (a.ren id r h)
 new := fun id h => by
  have := a.next
  have := b.next
  rcases b.new id h with h | h
  ·rcases a.new id h with h | h
   ·exact .inl h
   ·exact .inr ⟨h.1, by have := h.2; omega⟩
  ·exact .inr ⟨by have := h.1; omega, h.2⟩
 mem := fun x o h => b.mem x o (a.mem x o h)
 rel := b.rel
 fr := a.fr.trans b.fr
 next := Nat.le_trans a.next b.next
theorem Fresh.fst {ρ : Ren} {s s1 s2 : St} (h : Fresh ρ s s2) (hn : s1.next ≤ s2.next) : Fresh ρ s s1 := fun id hid => h id ⟨hid.1, by have := hid.2; omega⟩
theorem Fresh.snd {P : Program} {ρ ρ1 : Ren} {m m1 : Mem} {s s1 s2 : St} {w w1 : World} (h : Fresh ρ s s2) (a : Post P ρ m s w ρ1 m1 s1 w1) : Fresh ρ1 s1 s2 := fun id hid => by
 have hs := a.next
 have h0 := h id ⟨by have := hid.1; omega, hid.2⟩
 cases e : ρ1 id with
 | none => rfl
 | some r =>
  rcases a.new id (by rw [e]; simp) with h1 | h1
  ·exact absurd h0 h1
  ·have := h1.2; have := hid.1; omega
theorem Post.same {P : Program} {ρ : Ren} {m : Mem} {s s' : St} {w : World} (h : Rel P ρ m s.heap.get w) (hh : ∀ id, s'.heap.get id = s.heap.get id) (hn : s'.next = s.next) : Post P ρ m s w ρ m s' w where
 ren := fun _ _ h => h
 new := fun _ h => .inl h
 mem := fun _ _ h => h
 rel := h.congr hh
 fr := .refl w
 next := by omega
def OkObs (s : St) : Prop := s.obs.all id = true
theorem OkObs.of {s s' : St} {o : List Bool} (h : OkObs s') (e : s'.obs = o ++ s.obs) : OkObs s := by
 unfold OkObs at *; rw [e, List.all_append, Bool.and_eq_true] at h; exact h.2
def CallR (P : Program) (f : FuncId) (args : Array Value) (w : World) (K : Value → World → Prop) : Prop :=
 ((callFunc f args).run P w = .ok (.enter f args) w ∧ Calls P f args w fun e w' => ∃ v, e = .returned v ∧ K v w') ∨
 ∃ v w', (callFunc f args).run P w = .ok (.value v) w' ∧ K v w'
def SimCall (P : Program) (f : FuncId) (act : List AVal → M AVal) : Prop :=
 ∀ args s v s', (act args).run s = .ok v s' → OkObs s' → ∀ ρ m w xs, Rel P ρ m s.heap.get w → Fresh ρ s s' → RL ρ m args xs →
  CallR P f xs w fun x w' => ∃ ρ', Post P ρ m s w ρ' m s' w' ∧ R ρ' m v x
theorem M.bind_did {α β : Type} {mm : M α} {f : α → M β} {s : St} {b : β} {s2 : St} (h : (mm.bind f).run s = .ok b s2) (ho : OkObs s2) :
  ∃ a s1, mm.run s = .ok a s1 ∧ (f a).run s1 = .ok b s2 ∧ OkObs s1 ∧ s.next ≤ s1.next ∧ s1.next ≤ s2.next := by
 obtain ⟨a, s1, h1, h2⟩ := M.bind_ok h
 obtain ⟨_, _, _, d1⟩ := mm.loc _ _ _ h1
 obtain ⟨_, _, _, d2⟩ := (f a).loc _ _ _ h2
 exact ⟨a, s1, h1, h2, ho.of d2.obs, d1.next, d2.next⟩
end Go.Am
set_option linter.unusedSimpArgs false
set_option linter.unusedVariables false
namespace Go.Am
open Go
def isJunk : AVal → Bool
  | .junk => true
  | _ => false
structure TI where
  desc : TypeDesc
  size : Nat
  bytes : Nat
  zero : AVal
structure TOk (P : Program) (t : Nat) (i : TI) : Prop where
  info : ∃ j z, P.info? t = some j ∧ j.size = i.size ∧ j.bytes = i.bytes ∧ j.zero = some z ∧ ofValue z = i.zero
  zsize : i.zero.cells.length = i.size
  zj : isJunk i.zero = false
  und : P.underlying t = some i.desc
structure TE (P : Program) where
  t : Nat
  i : TI
  ok : TOk P t i
structure FI where
  body : Code
  ntmps : Nat
  results : List ResultVar
  keep : Option (List Bool) := none
structure FOk (P : Program) (f : Nat) (i : FI) : Prop where
  fn : ∃ fn, P.funcs[f]? = some fn ∧ fn.body = some i.body ∧ fn.ntmps = i.ntmps ∧ fn.results.toList = i.results
  call : ∀ args w, (callFunc f args).run P w = .ok (.enter f args) w
structure FE (P : Program) where
  f : Nat
  i : FI
  ok : FOk P f i
inductive BT (α : Type) where
  | leaf (a : α)
  | node (m : Nat) (l r : BT α)
def BT.find {α : Type} : BT α → Nat → α
  | .leaf a, _ => a
  | .node m l r, n => match n.blt m with
    | true => l.find n
    | false => r.find n
structure Hook (P : Program) where
  f : Nat
  act : List AVal → M AVal
  ok : SimCall P f act
structure QE (P : Program) where
  t : Nat
  held : P.stoodInHeld t = false
  guard : P.eqGuardType P.depth t = false
abbrev Fw (o : Option Nat) : Fence := { Fence.wide with round := o }
def Mem.with (m : Mem) (D : List Nat) : Mem := fun b => if b ∈ D then some (.deferred (some [])) else m b
abbrev mk (r : Nat) : Deferred := { target := .collected r, args := #[] }
structure Marks (m : Mem) (D : List Nat) : Prop where
  nodup : D.Nodup
  none : ∀ r ∈ D, m r = none
inductive AExit where
  | normal | ret
  | exit (id : Nat)
inductive RX : AExit → Exit → Prop
  | normal : RX .normal .normal
  | ret : RX .ret .ret
  | exit (id : Nat) : RX (.exit id) (.exit id)
inductive RN (ρ : Ren) : Option Nat → Option Nat → Prop
  | none : RN ρ none none
  | some (id : Nat) (r : RB) (h : ρ id = some r) : RN ρ (some id) (some r.b)
structure AtEnd (P : Program) (ρ : Ren) (m : Mem) (s : St) (w : World) (o : Option Nat) (a : Act) (e : AExit) (tm' : List AVal) (s' : St) (e' : Exit) (a' : Act) (w' : World) (ρ' : Ren) (D : List Nat) : Prop where
  post : Post P ρ m s w ρ' (m.with D) s' w'
  tmps : RL ρ' (m.with D) tm' a'.tmps
  ex : RX e e'
  defers : a'.defers = D.map mk ++ a.defers
  marks : Marks m D
  inRound : o ≠ none → D = []
def Sim1 (P : Program) (rnd : Option Nat) (c : Code) (act : List AVal → M (AExit × List AVal)) : Prop :=
  ∀ tm e tm' s s', (act tm).run s = .ok (e, tm') s' → OkObs s' → ∀ ρ m w a o n (Q : Exit → Act → World → Prop), Rel P ρ m s.heap.get w → Fresh ρ s s' → RL ρ m tm a.tmps → RN ρ rnd o →
    (∀ e' a' w' ρ' D, AtEnd P ρ m s w o a e tm' s' e' a' w' ρ' D → Q e' a' w') → c.wpIn (Fw o) n P Q a w
structure CHook (P : Program) where
  fn : Nat
  id : Nat
  c : Code
  act : List AVal → M (AExit × List AVal)
  ok : ∀ rnd, Sim1 P rnd c act
open Classical in
noncomputable def chookAt {P : Program} : List (CHook P) → FuncId → Nat → Code → Option (List AVal → M (AExit × List AVal))
  | [], _, _, _ => none
  | h :: l, fn, id, c => match h.fn.beq fn && h.id.beq id with
    | true => if h.c = c then some h.act else chookAt l fn id c
    | false => chookAt l fn id c
def noHook {P : Program} (l : List (CHook P)) (fn : FuncId) (id : Nat) : Bool := l.all fun h => !(h.fn.beq fn && h.id.beq id)
theorem chook_none {P : Program} : ∀ {l : List (CHook P)} {fn : FuncId} {id : Nat} {c : Code}, noHook l fn id = true → chookAt l fn id c = none
  | [], _, _, _, _ => rfl
  | h :: l, fn, id, c, q => by
    simp only [noHook, List.all_cons, Bool.and_eq_true] at q
    unfold chookAt
    cases e : h.fn.beq fn && h.id.beq id with
    | true => rw [e] at q; cases q.1
    | false => exact chook_none q.2
theorem chook_ok {P : Program} : ∀ {l : List (CHook P)} {fn : FuncId} {id : Nat} {c : Code} {act : List AVal → M (AExit × List AVal)}, chookAt l fn id c = some act → ∀ rnd, Sim1 P rnd c act
  | h :: l, fn, id, c, act, q, rnd => by
    unfold chookAt at q
    split at q
    · split at q
      · rename_i e
        injection q with q
        rw [← q, ← e]; exact h.ok rnd
      · exact chook_ok q rnd
    · exact chook_ok q rnd
structure Env where
  P : Program
  mixed : P.follows .mixedOrders = true
  types : BT (TE P)
  funcs : BT (FE P)
  hooks : List (Hook P)
  eqs : List (QE P)
  rhooks : List (CHook P) := []
  bhooks : List (CHook P) := []
variable (E : Env)
def ti (t : TypeId) : M TI :=
  match (E.types.find t).t.beq t with
  | true => M.pure (E.types.find t).i
  | false => fail "no such type"
def und (t : TypeId) : M TypeDesc := (ti E t).bind fun i => M.pure i.desc
def sizeOf (t : TypeId) : M Nat := (ti E t).bind fun i => M.pure i.size
def zeroOf (t : TypeId) : M AVal := (ti E t).bind fun i => M.pure i.zero
def aggB : TypeDesc → Bool
  | .struct _ => true
  | .array _ _ => true
  | _ => false
def rowK {α : Type} (k : Cont → TypeId → M α) : Blk → M α
  | .row c t => k c t
  | _ => fail "row expected"
def readCells (v : AVal) (n : Nat) : M (List AVal) :=
  match v with
  | .ptr id off => (getB id).bind (rowK fun c _ => (ob ((off + n).ble c.size)).bind fun _ => M.pure (c.sub off n))
  | .ip f m off => (ob ((off + n).ble m)).bind fun _ => M.pure (cellsOf f off n)
  | _ => fail "address expected"
def oneOf : List AVal → M AVal
  | [v] => M.pure v
  | _ => fail "one cell expected"
def load (t : TypeId) (a : AVal) : M AVal :=
  (ti E t).bind fun i => match aggB i.desc with
    | true => (readCells a i.size).bind fun cs => M.pure (.agg cs)
    | false => (readCells a 1).bind oneOf
def setAll (c : Cont) (off : Nat) : List AVal → Cont
  | [] => c
  | v :: l => setAll (c.set off v) (off + 1) l
def oneCell : AVal → Bool
  | .agg _ => false
  | .tup _ => false
  | .junk => false
  | _ => true
def writeCells (a : AVal) (vs : List AVal) : M Unit :=
  match a with
  | .ptr id off => (getB id).bind (rowK fun c t => (ob ((off + vs.length).ble c.size)).bind fun _ =>
      match vs.all oneCell with
      | true => setB id (.row (setAll c off vs) t)
      | false => fail "a value of more cells than one")
  | _ => fail "an address that may be written expected"
def store (t : TypeId) (a v : AVal) : M Unit :=
  (ti E t).bind fun i => match v.cells.length.beq i.size with
    | true => writeCells a v.cells
    | false => fail "store: size"
def newRow (t : TypeId) (cs : List AVal) : M Nat := (ti E t).bind fun _ => newB (.row (.l cs) t)
def alloc (t : TypeId) (v : AVal) : M AVal := match isJunk v with
  | true => fail "box: unknown value"
  | false => (newRow E t v.cells).bind fun id => M.pure (.ptr id 0)
def fill (place : Nat → Option (Nat × Nat)) (cells : List AVal) : List (Nat × AVal) → Option (List AVal)
  | [] => some cells
  | (i, v) :: rest => match place i with
    | none => none
    | some (off, size) => match (isJunk v).not && v.cells.length.beq size && (off + v.cells.length).ble cells.length with
      | true => fill place (cells.take off ++ v.cells ++ cells.drop (off + v.cells.length)) rest
      | false => none
def sizesOf : List Field → M (List (Nat × Nat))
  | [] => M.pure []
  | f :: l => (sizeOf E f.type).bind fun n => (sizesOf l).bind fun r => M.pure ((f.offset, n) :: r)
def getO {α : Type} (why : String) : Option α → M α
  | some a => M.pure a
  | none => fail why
def build (t : TypeId) (parts : List (Nat × AVal)) : M AVal :=
  (ti E t).bind fun i => match i.desc with
    | .struct fs => (sizesOf E fs.toList).bind fun ps => (getO "build" (fill (ps[·]?) i.zero.cells parts)).bind fun cs => M.pure (.agg cs)
    | .array _ e => (sizeOf E e).bind fun n => (getO "build" (fill (fun i => some (i * n, n)) i.zero.cells parts)).bind fun cs => M.pure (.agg cs)
    | _ => fail "build: type"
def reps (z : List AVal) : Nat → List AVal
  | 0 => []
  | n + 1 => z ++ reps z n
def buildSlice (t : TypeId) (len : Nat) (parts : List (Nat × AVal)) : M AVal :=
  (und E t).bind fun d => match d with
    | .slice e => (ti E e).bind fun i => match (len * i.size).ble 16777216 with
      | true => (getO "buildSlice" (fill (fun k => some (k * i.size, i.size)) (reps i.zero.cells len) parts)).bind fun cs =>
          (newRow E e cs).bind fun id => M.pure (.sl id 0 len (some len) i.size)
      | false => fail "buildSlice: too long"
    | _ => fail "buildSlice: type"
def moved (n : Nat) : AVal → M AVal
  | .ptr id off => M.pure (.ptr id (off + n))
  | .ip g m off => M.pure (.ip g m (off + n))
  | _ => fail "address expected"
def fieldAddr (t : TypeId) (a : AVal) (i : Nat) : M AVal :=
  (und E t).bind fun d => match d with
    | .struct fs => (getO "no such field" fs.toList[i]?).bind fun f => (sizeOf E f.type).bind fun n => match n.beq 0 with
      | true => fail "a field of size 0"
      | false => moved f.offset a
    | _ => fail "fieldAddr: struct expected"
def idx (i : Int) (len : Nat) : M Nat := (ob (decide (0 ≤ i ∧ i < (len : Int)))).bind fun _ => M.pure i.toNat
def intK {α : Type} (k : Int → M α) : AVal → M α
  | .int _ n => k n
  | _ => fail "int expected"
def slK {α : Type} (k : Nat → Nat → Nat → Option Nat → Nat → M α) (k2 : (Nat → AVal) → Nat → Nat → Nat → M α) : AVal → M α
  | .sl id off len cap sz => k id off len cap sz
  | .isl g sz off len => k2 g sz off len
  | _ => fail "slice expected"
def indexAddr (t : TypeId) (x i : AVal) : M AVal :=
  (und E t).bind fun d => intK (fun i => match d with
    | .array len e => (sizeOf E e).bind fun n => (idx i len).bind fun j => moved (j * n) x
    | .slice e => (sizeOf E e).bind fun n =>
      slK (fun id off len _ sz => match n.beq sz with
          | true => (idx i len).bind fun j => M.pure (.ptr id (off + j * n))
          | false => fail "indexAddr: size")
        (fun g sz off len => match n.beq sz with
          | true => (idx i len).bind fun j => M.pure (.ip g (off + len * sz) (off + j * n))
          | false => fail "indexAddr: size") x
    | _ => fail "indexAddr") i
def part (t : TypeId) (cs : List AVal) (off : Nat) : M AVal :=
  (ti E t).bind fun i => match aggB i.desc with
    | true => M.pure (.agg ((cs.drop off).take i.size))
    | false => getO "part" cs[off]?
def aggK {α : Type} (k : List AVal → M α) : AVal → M α
  | .agg l => k l
  | _ => fail "struct or array expected"
def strK {α : Type} (k : List UInt8 → M α) : AVal → M α
  | .str l => k l
  | _ => fail "string expected"
def field (t : TypeId) (x : AVal) (i : Nat) : M AVal :=
  (und E t).bind fun d => match d with
    | .struct fs => aggK (fun cs => (getO "no such field" fs.toList[i]?).bind fun f => part E f.type cs f.offset) x
    | _ => fail "field"
def byteAt (s : List UInt8) (j : Nat) : UInt8 := s.getD j 0
def index (t : TypeId) (x i : AVal) : M AVal :=
  (und E t).bind fun d => intK (fun i => match d with
    | .array len e => aggK (fun cs => (idx i len).bind fun j => (sizeOf E e).bind fun n => part E e cs (j * n)) x
    | .string => strK (fun s => (idx i s.length).bind fun j => M.pure (.int .u8 (byteAt s j).toNat)) x
    | _ => fail "index") i
def bound (v : Option AVal) (dflt : Nat) (most : Nat) : M Nat :=
  match v with
  | none => M.pure dflt
  | some v => intK (fun i => (ob (decide (0 ≤ i ∧ i ≤ (most : Int)))).bind fun _ => M.pure i.toNat) v
def sameSz {α : Type} (n sz : Nat) (k : M α) : M α := match n.beq sz with
  | true => k
  | false => fail "slice: size"
def roomOf (id off len n : Nat) (hi : Option AVal) : M Nat :=
  match hi with
  | some (.int _ i) => match decide (i ≤ (len : Int)) with
    | true => M.pure len
    | false => (getB id).bind (rowK fun c _ => M.pure (max len ((c.size - off) / n)))
  | _ => M.pure len
def slice (t : TypeId) (x : AVal) (lo hi mx : Option AVal) : M AVal :=
  (und E t).bind fun d => match d with
    | .string => match mx with
      | none => strK (fun s => (bound hi s.length s.length).bind fun h => (bound lo 0 h).bind fun l => M.pure (.str ((s.take h).drop l))) x
      | some _ => fail "slice"
    | .slice e => (sizeOf E e).bind fun n => match mx with
      | none => match x with
        | .nils => (bound hi 0 0).bind fun h => (bound lo 0 h).bind fun _ => M.pure .nils
        | .emp => (bound hi 0 0).bind fun h => (bound lo 0 h).bind fun _ => M.pure .emp
        | .isl g sz off len => sameSz n sz ((bound hi len len).bind fun h => (bound lo 0 h).bind fun l => M.pure (.isl g sz (off + l * n) (h - l)))
        | .sl id off len cap sz => sameSz n sz (match cap with
          | some c => (bound hi len c).bind fun h => (bound lo 0 h).bind fun l => M.pure (.sl id (off + l * n) (h - l) (some (c - l)) sz)
          | none => (roomOf id off len n hi).bind fun most => (bound hi len most).bind fun h => (bound lo 0 h).bind fun l => M.pure (.sl id (off + l * n) (h - l) none sz))
        | _ => fail "slice"
      | some mx => match hi with
       | none => fail "slice"
       | some _ => match x with
        | .nils => (bound (some mx) 0 0).bind fun m => (bound hi 0 m).bind fun h => (bound lo 0 h).bind fun _ => M.pure .nils
        | .emp => (bound (some mx) 0 0).bind fun m => (bound hi 0 m).bind fun h => (bound lo 0 h).bind fun _ => M.pure .emp
        | .isl _ sz _ len => sameSz n sz ((bound (some mx) 0 0).bind fun m => (bound hi len m).bind fun h => (bound lo 0 h).bind fun _ => M.pure .emp)
        | .sl id off len cap sz => sameSz n sz ((bound (some mx) 0 (cap.getD len)).bind fun m => (bound hi len m).bind fun h => (bound lo 0 h).bind fun l =>
            M.pure (.sl id (off + l * n) (h - l) (some (m - l)) sz))
        | _ => fail "slice"
    | .array len e => (sizeOf E e).bind fun n => match mx with
      | none => (bound hi len len).bind fun h => (bound lo 0 h).bind fun l => match x with
        | .ptr id off => M.pure (.sl id (off + l * n) (h - l) (some (len - l)) n)
        | .ip g m off => (ob ((off + len * n).ble m)).bind fun _ => M.pure (.isl g n (off + l * n) (h - l))
        | _ => fail "slice"
      | some _ => fail "slice"
    | _ => fail "slice: type"
def lenOf : AVal → M Nat
  | .nils => M.pure 0
  | .emp => M.pure 0
  | .sl _ _ n _ _ => M.pure n
  | .isl _ _ _ n => M.pure n
  | .str s => M.pure s.length
  | _ => fail "len"
def byteCells : List UInt8 → List AVal
  | [] => []
  | b :: l => .int .u8 b.toNat :: byteCells l
def sliceCells (sz n : Nat) : AVal → M (List AVal)
  | .nils => (ob (n.beq 0)).bind fun _ => M.pure []
  | .emp => (ob (n.beq 0)).bind fun _ => M.pure []
  | .sl id off len _ s => sameSz s sz ((getB id).bind (rowK fun c _ => (ob (n.ble len)).bind fun _ => (ob ((off + n * sz).ble c.size)).bind fun _ => M.pure (c.sub off (n * sz))))
  | .isl g s off len => sameSz s sz ((ob (n.ble len)).bind fun _ => M.pure (cellsOf g off (n * sz)))
  | .str s => sameSz sz 1 ((ob (n.ble s.length)).bind fun _ => M.pure (byteCells (s.take n)))
  | _ => fail "slice or string expected"
def room : Nat := 281474976710656
def grown (e : TypeId) (i : TI) (need : Nat) (cs : List AVal) : M AVal :=
  (ob ((2 * need * i.bytes).ble room && need.ble room)).bind fun _ => (newB (.row (.l cs) e)).bind fun id => M.pure (.sl id 0 need none i.size)
def append (t : TypeId) (s x : AVal) : M AVal :=
  (und E t).bind fun d => match d with
    | .slice e => (ti E e).bind fun i => (lenOf x).bind fun n => (ask (n.beq 0)).bind fun nothing => match nothing with
      | true => match s with
        | .nils => M.pure s
        | .emp => M.pure s
        | .sl _ _ _ _ _ => M.pure s
        | .isl _ _ _ _ => M.pure s
        | _ => fail "append: slice expected"
      | false => (sliceCells i.size n x).bind fun xs => match s with
        | .nils => grown e i n xs
        | .emp => grown e i n xs
        | .sl id off len cap sz => sameSz sz i.size ((getB id).bind (rowK fun c t' => match cap with
          | some m => (ask ((len + n).ble m)).bind fun fits => match fits with
            | true => (writeCells (.ptr id (off + len * i.size)) xs).bind fun _ => M.pure (.sl id off (len + n) (some m) sz)
            | false => (sliceCells i.size len s).bind fun ys => grown e i (len + n) (ys ++ xs)
          | none => (ask ((off + (len + n) * i.size).ble c.size)).bind fun fits => match fits with
            | true => (ob (Nat.blt 0 i.size)).bind fun _ => (writeCells (.ptr id (off + len * i.size)) xs).bind fun _ => M.pure (.sl id off (len + n) none sz)
            | false => match off.beq 0 && t'.beq e && xs.all oneCell with
              | true => (sliceCells i.size len s).bind fun ys => (kill id).bind fun _ => grown e i (len + n) (ys ++ xs)
              | false => fail "append: a slice that begins within its block"))
        | _ => fail "append: slice expected"
    | _ => fail "append: type"
def appendZ (t : TypeId) (s : AVal) (k : Int) : M AVal :=
  (und E t).bind fun d => match d with
    | .slice e => (ti E e).bind fun i => match s with
      | .sl id off len cap sz => match cap with
        | some m => sameSz sz i.size ((ob (decide (0 < k ∧ m < len + k.toNat ∧ 0 < i.size ∧ i.zero.cells.all oneCell = true))).bind fun _ =>
            (sliceCells i.size len (.sl id off len (some m) sz)).bind fun ys => grown e i (len + k.toNat) (ys ++ reps i.zero.cells k.toNat))
        | none => fail "append of a make"
      | _ => fail "append of a make"
    | _ => fail "append: type"
def copy (t : TypeId) (dst src : AVal) : M AVal :=
  (und E t).bind fun d => match d with
    | .slice e => (lenOf src).bind fun n1 => (lenOf dst).bind fun n2 => (sizeOf E e).bind fun sz => (ask ((min n1 n2).beq 0)).bind fun nothing => match nothing with
      | true => match dst with
        | .str _ => fail "copy"
        | _ => M.pure (.int .i64 0)
      | false => (sliceCells sz (min n1 n2) src).bind fun cs => match dst with
        | .sl id off _ _ s => sameSz s sz ((writeCells (.ptr id off) cs).bind fun _ => M.pure (.int .i64 (min n1 n2 : Nat)))
        | _ => fail "copy"
    | _ => fail "copy: type"
def makeSlice (t : TypeId) (l c : AVal) : M AVal :=
  (und E t).bind fun d => match d with
    | .slice e => (ti E e).bind fun i => intK (fun l => intK (fun c =>
        (ob (decide (0 ≤ l ∧ l ≤ c ∧ c ≤ 9223372036854775807 ∧ (i.bytes : Int) * c ≤ 281474976710656))).bind fun _ =>
        (newRow E e (reps i.zero.cells c.toNat)).bind fun id => M.pure (.sl id 0 l.toNat (some c.toNat) i.size)) c) l
    | _ => fail "makeSlice"
def wrapI (k : IntKind) (n : Int) : AVal := .int k (k.wrap n)
def intOp (op : BinOp) (k : IntKind) (a b : Int) : M AVal :=
  match op with
  | .add => M.pure (wrapI k (a + b))
  | .sub => M.pure (wrapI k (a - b))
  | .mul => M.pure (wrapI k (a * b))
  | .quo => (ob (decide (b ≠ 0))).bind fun _ => M.pure (wrapI k (a.tdiv b))
  | .rem => (ob (decide (b ≠ 0))).bind fun _ => M.pure (.int k (a.tmod b))
  | .and => M.pure (wrapI k (BitVec.ofInt k.bits a &&& BitVec.ofInt k.bits b).toNat)
  | .or => M.pure (wrapI k (BitVec.ofInt k.bits a ||| BitVec.ofInt k.bits b).toNat)
  | .xor => M.pure (wrapI k (BitVec.ofInt k.bits a ^^^ BitVec.ofInt k.bits b).toNat)
  | .andNot => M.pure (wrapI k (BitVec.ofInt k.bits a &&& ~~~ BitVec.ofInt k.bits b).toNat)
  | .shl => fail "intOp"
  | .shr => fail "intOp"
  | .eql => M.pure (.bool (a == b))
  | .neq => M.pure (.bool (a != b))
  | .lss => M.pure (.bool (decide (a < b)))
  | .leq => M.pure (.bool (decide (a ≤ b)))
  | .gtr => M.pure (.bool (decide (a > b)))
  | .geq => M.pure (.bool (decide (a ≥ b)))
def strOp (op : BinOp) (x y : List UInt8) : M AVal :=
  match op with
  | .add => (ob (decide (((x.length + y.length : Nat) : Int) ≤ 9223372036854775807))).bind fun _ => M.pure (.str (x ++ y))
  | .eql => M.pure (.bool (x == y))
  | .neq => M.pure (.bool (!(x == y)))
  | .lss => M.pure (.bool (Op.bytesLess x y))
  | .leq => M.pure (.bool (Op.bytesLess x y || x == y))
  | .gtr => M.pure (.bool (!(Op.bytesLess x y || x == y)))
  | .geq => M.pure (.bool (!(Op.bytesLess x y)))
  | _ => fail "strOp"
def allM {α : Type} (f : α → M Bool) : List α → M Bool
  | [] => M.pure true
  | x :: l => (f x).bind fun a => (allM f l).bind fun b => M.pure (a && b)
def boolOf : AVal → M Bool
  | .bool b => M.pure b
  | .blit b => M.pure b
  | _ => fail "bool expected"
def nilPtr : AVal → M Bool
  | .nilp => M.pure true
  | .ptr _ _ => M.pure false
  | .ip _ _ _ => M.pure false
  | _ => fail "pointer expected"
def nilFn : AVal → M Bool
  | .nilf => M.pure true
  | .fn _ _ _ => M.pure false
  | _ => fail "function expected"
def nilSl : AVal → M Bool
  | .nils => M.pure true
  | .sl _ _ _ _ _ => M.pure false
  | .isl _ _ _ _ => M.pure false
  | _ => fail "slice expected"
def nilMap : AVal → M Bool
  | .nilm => M.pure true
  | .map _ => M.pure false
  | _ => fail "map expected"
def eqAt (l : List (QE E.P)) (t : Nat) : Bool :=
  match l with
  | [] => false
  | q :: l => q.t.beq t || eqAt l t
def equal : (depth : Nat) → TypeId → AVal → AVal → M Bool
  | 0, _, _, _ => fail "equal: depth"
  | d + 1, t, x, y => (und E t).bind fun u => match u with
    | .bool => (boolOf x).bind fun a => (boolOf y).bind fun b => M.pure (a == b)
    | .int _ => match x with
      | .int k a => match y with
        | .int k' b => match decide (k = k') with
          | true => M.pure (a == b)
          | false => fail "equal: kinds"
        | _ => fail "equal"
      | _ => fail "equal"
    | .string => strK (fun a => strK (fun b => M.pure (a == b)) y) x
    | .pointer _ => (nilPtr x).bind fun a => (nilPtr y).bind fun b => match a || b with
      | true => M.pure (a && b)
      | false => fail "equal: pointers"
    | .func _ _ _ => (nilFn x).bind fun a => (nilFn y).bind fun b => match a || b with
      | true => M.pure (a && b)
      | false => fail "equal: functions"
    | .slice _ => (nilSl x).bind fun a => (nilSl y).bind fun b => match a || b with
      | true => M.pure (a && b)
      | false => fail "equal: slices"
    | .map _ _ => (nilMap x).bind fun a => (nilMap y).bind fun b => match a || b with
      | true => M.pure (a && b)
      | false => fail "equal: maps"
    | .struct fs => match eqAt E E.eqs t with
      | true => aggK (fun xs => aggK (fun ys => allM (fun (f : Field) => match decide (f.name = "_") with
          | true => M.pure true
          | false => (part E f.type xs f.offset).bind fun a => (part E f.type ys f.offset).bind fun b => equal d f.type a b) fs.toList) y) x
      | false => fail "equal: struct"
    | .array len e => match eqAt E E.eqs t with
      | true => aggK (fun xs => aggK (fun ys => (sizeOf E e).bind fun n => allM (fun i => (part E e xs (i * n)).bind fun a => (part E e ys (i * n)).bind fun b => equal d e a b) (List.range len)) y) x
      | false => fail "equal: array"
    | _ => fail "equal: type"
def equalTop (t : TypeId) (x y : AVal) : M Bool := equal E 100 t x y
def shiftOp (op : BinOp) (k : IntKind) (a b : Int) : M AVal :=
  (ob (decide (0 ≤ b))).bind fun _ => match op with
    | .shl => M.pure (wrapI k (a * 2 ^ (min b.toNat k.bits)))
    | .shr => M.pure (.int k (a.fdiv (2 ^ (min b.toNat k.bits))))
    | _ => fail "shift"
def shiftB : BinOp → Bool
  | .shl => true
  | .shr => true
  | _ => false
def binOther (op : BinOp) (t : TypeId) (x y : AVal) : M AVal :=
  match op with
  | .eql => (equalTop E t x y).bind fun b => M.pure (.bool b)
  | .neq => (equalTop E t x y).bind fun b => M.pure (.bool (!b))
  | _ => fail "binOp"
def binInt (op : BinOp) (k : IntKind) (a : Int) : AVal → M AVal
  | .int k' b => match shiftB op with
    | true => shiftOp op k a b
    | false => match decide (k = k') with
      | true => intOp op k a b
      | false => fail "binOp: kinds"
  | _ => fail "binOp"
def binOp (op : BinOp) (t : TypeId) (x y : AVal) : M AVal :=
  match x with
  | .int k a => binInt op k a y
  | .str a => strK (fun b => strOp op a b) y
  | x => binOther E op t x y
def unOp (op : UnOp) (x : AVal) : M AVal :=
  match op with
  | .neg => match x with
    | .int k n => M.pure (wrapI k (0 - n))
    | _ => fail "unOp"
  | .xor => match x with
    | .int k n => intOp .xor k (if k.signed then -1 else k.max) n
    | _ => fail "unOp"
  | .not => match x with
    | .bool b => M.pure (.bool (!b))
    | .blit b => M.pure (.blit (!b))
    | _ => fail "unOp"
  | .plus => fail "unOp"
def isByte : AVal → Bool
  | .int .u8 _ => true
  | _ => false
def toByte : AVal → UInt8
  | .int _ n => UInt8.ofNat n.toNat
  | _ => 0
def isU8 : TypeDesc → Bool
  | .int .u8 => true
  | _ => false
def convStr (e : TypeId) (x : AVal) : M AVal :=
  (und E e).bind fun u => match isU8 u with
    | true => (lenOf x).bind fun n => (sliceCells 1 n x).bind fun cs => (ob (cs.all isByte)).bind fun _ => M.pure (.str (cs.map toByte))
    | false => fail "convert: slice"
def touch (id : Nat) : M Unit := (getB id).bind fun b => setB id b
def convert (src dst : TypeId) (x : AVal) : M AVal :=
  (und E src).bind fun s => (und E dst).bind fun d => match d with
    | .int k => intK (fun n => M.pure (wrapI k n)) x
    | .string => match s with
      | .string => strK (fun l => M.pure (.str l)) x
      | .slice e => match x with
        | .str _ => fail "convert"
        | x => convStr E e x
      | _ => fail "convert"
    | .slice e => (und E e).bind fun u => match isU8 u with
      | true => match s with
        | .string => strK (fun l => (sizeOf E e).bind fun n => sameSz n 1 ((newRow E e (byteCells l)).bind fun id => M.pure (.sl id 0 l.length none 1))) x
        | .slice _ => match src.beq dst with
          | true => match x with
            | .sl id off len cap sz => (getB id).bind (rowK fun c t => (ob ((match cap with | some k => Nat.blt 0 k | none => off.blt c.size) && t.beq e)).bind fun _ => (touch id).bind fun _ => M.pure (.sl id off len cap sz))
            | _ => fail "convert"
          | false => fail "convert"
        | _ => fail "convert"
      | false => fail "convert"
    | _ => fail "convert"
def extract (x : AVal) (i : Nat) : M AVal :=
  match x with
  | .tup l => getO "extract" l[i]?
  | _ => fail "extract: tuple expected"
def min2 (x y : AVal) : M AVal :=
  match x with
  | .int k a => intK (fun b => M.pure (.int k (if b < a then b else a))) y
  | _ => fail "min"
def max2 (x y : AVal) : M AVal :=
  match x with
  | .int k a => intK (fun b => M.pure (.int k (if a < b then b else a))) y
  | _ => fail "max"
def foldM2 (f : AVal → AVal → M AVal) (x : AVal) : List AVal → M AVal
  | [] => M.pure x
  | y :: l => (f x y).bind fun z => foldM2 f z l
def range (t : TypeId) (x : AVal) : M AVal :=
  (und E t).bind fun d => match d with
    | .string => strK (fun s => (newB (.siter s 0)).bind fun id => M.pure (.ptr id 0)) x
    | .map _ _ => match x with
      | .map id => (getB id).bind fun b => match b with
        | .map _ ck => (newB (.miter id ck [] ck)).bind fun it => M.pure (.ptr it 0)
        | _ => fail "range"
      | _ => fail "range"
    | _ => fail "range"
def nextS (id : Nat) : Blk → M AVal
  | .siter s pos => (ask (pos.blt s.length)).bind fun more => match more with
    | true => (setB id (.siter s (pos + (Utf8.decode ⟨⟨s⟩⟩ pos).2))).bind fun _ => M.pure (.tup [.blit true, .int .i64 pos, .int .i32 (Utf8.decode ⟨⟨s⟩⟩ pos).1])
    | false => M.pure (.tup [.blit false])
  | _ => fail "next"
def next (x : AVal) : M AVal :=
  match x with
  | .ptr id off => match off.beq 0 with
    | true => (getB id).bind (nextS id)
    | false => fail "next"
  | _ => fail "next"
def opd (tm : List AVal) : Operand → AVal
  | .tmp t => nth tm t undef
  | .const v => ofValue v
  | .global _ => .junk
  | .func f => .fn (.func f) [] []
def opds (tm : List AVal) : List Operand → List AVal
  | [] => []
  | x :: l => opd tm x :: opds tm l
abbrev Rec := FuncId → Option Nat → Code → List AVal → M (AExit × List AVal)
variable (rec : Rec)
def resultOf (tm : List AVal) : List ResultVar → M (List AVal)
  | [] => M.pure []
  | r :: l => match r with
    | .tmp t => (resultOf tm l).bind fun r => M.pure (nth tm t undef :: r)
    | .cell a t => (load E t (nth tm a undef)).bind fun v => (resultOf tm l).bind fun r => M.pure (v :: r)
def oneOrTup : List AVal → AVal
  | [v] => v
  | l => .tup l
def ended (tm : List AVal) (rs : List ResultVar) : M AVal := (resultOf E tm rs).bind fun r => M.pure (oneOrTup r)
def callI (f : FuncId) (args : List AVal) : M AVal :=
  match (E.funcs.find f).f.beq f with
  | true => (rec f none (E.funcs.find f).i.body (args ++ List.replicate ((E.funcs.find f).i.ntmps - args.length) undef)).bind fun r => match r.1 with
    | .exit _ => fail "left by an exit"
    | .normal => ended E r.2 (E.funcs.find f).i.results
    | .ret => ended E r.2 (E.funcs.find f).i.results
  | false => fail "no such function"
def hookAt (l : List (Hook E.P)) (f : FuncId) (args : List AVal) (k : M AVal) : M AVal :=
  match l with
  | [] => k
  | h :: l => match h.f.beq f with
    | true => h.act args
    | false => hookAt l f args k
def callF (f : FuncId) (args : List AVal) : M AVal := hookAt E E.hooks f args (callI E rec f args)
def loopK {α : Type} (k : ALoop → M α) : Blk → M α
  | .loop l => k l
  | _ => fail "loop expected"
def putAll (tm : List AVal) : List (Tmp × AVal) → List AVal
  | [] => tm
  | (t, v) :: l => putAll (put tm t v) l
def jumpOf : AExit → Option Code
  | .normal => none
  | .ret => some .ret
  | .exit id => some (.exit id)
def normB : AExit → Bool
  | .normal => true
  | _ => false
def yieldTo (id : Nat) (args : List AVal) : M AVal :=
  (getB id).bind (loopK fun l => match args.length.beq l.params.length with
    | false => fail "yield: arguments"
    | true => match l.state with
      | .ready => (rec l.fn (some id) l.assign (putAll l.tmps (l.params.zip args))).bind fun r => match r.1 with
        | .normal => (getB id).bind (loopK fun l2 => match l2.state with
          | .ready => (setB id (.loop { l2 with state := .busy })).bind fun _ => (rec l.fn (some id) l.body r.2).bind fun r2 =>
              (getB id).bind (loopK fun l3 => (setB id (.loop { l3 with state := (match normB r2.1 with | true => .ready | false => .done), pending := jumpOf r2.1 })).bind fun _ =>
                M.pure (.blit (normB r2.1)))
          | _ => fail "yield: not ready")
        | _ => fail "assign"
      | _ => fail "yield: not ready")
def callV (f : AVal) (args : List AVal) : M AVal :=
  match f with
  | .fn g first cap => match g with
    | .func g => callF E rec g (first ++ args ++ cap)
    | .yield id => match first with
      | [] => yieldTo rec id args
      | _ => fail "call"
    | _ => fail "call"
  | _ => fail "call"
def bLen (ts : List TypeId) (x : AVal) : M AVal :=
  match ts with
  | t :: _ => (und E t).bind fun d => match d with
    | .array n _ => M.pure (.int .i64 n)
    | .pointer a => (und E a).bind fun d => match d with
      | .array n _ => M.pure (.int .i64 n)
      | _ => fail "len"
    | .string => strK (fun s => M.pure (.int .i64 s.length)) x
    | .slice _ => match x with
      | .str _ => fail "len"
      | x => (lenOf x).bind fun n => M.pure (.int .i64 n)
    | .map _ _ => match x with
      | .nilm => M.pure (.int .i64 0)
      | .map id => (getB id).bind fun b => match b with
        | .map es _ => M.pure (.int .i64 (es.length : Nat))
        | _ => fail "len"
      | _ => fail "len"
    | _ => fail "len"
  | [] => fail "len"
abbrev Ent := AVal × AVal × Nat
def mapK {α : Type} (k : List Ent → Nat → M α) : Blk → M α
  | .map es ck => k es ck
  | _ => fail "map expected"
def same1 : AVal → AVal → Bool
  | .int k a, .int j b => decide (k = j) && a == b
  | .str a, .str b => a == b
  | _, _ => false
def all2 : List AVal → List AVal → Bool
  | [], [] => true
  | a :: x, b :: y => same1 a b && all2 x y
  | _, _ => false
def sameKey : AVal → AVal → Bool
  | .agg a, .agg b => all2 a b
  | .int k a, .int j b => same1 (.int k a) (.int j b)
  | .str a, .str b => same1 (.str a) (.str b)
  | _, _ => false
def allU {α : Type} (f : α → M Unit) : List α → M Unit
  | [] => M.pure ()
  | x :: l => (f x).bind fun _ => allU f l
def keyB : Nat → TypeId → AVal → M Unit
  | 0, _, _ => fail "key: depth"
  | d + 1, t, v => (und E t).bind fun u => match u with
    | .bool => M.pure ()
    | .int _ => M.pure ()
    | .string => M.pure ()
    | .struct fs => aggK (fun xs => allU (fun (f : Field) => match decide (f.name = "_") with
        | true => M.pure ()
        | false => (part E f.type xs f.offset).bind fun a => keyB d f.type a) fs.toList) v
    | .array n e => aggK (fun xs => (sizeOf E e).bind fun z => allU (fun i => (part E e xs (i * z)).bind fun a => keyB d e a) (List.range n)) v
    | _ => fail "key: type"
def findA (t : TypeId) (k : AVal) : List Ent → Nat → M (Option (Nat × AVal))
  | [], _ => M.pure none
  | e :: es, i => (equalTop E t k e.1).bind fun b => match b with
    | true => M.pure (some (i, e.2.1))
    | false => findA t k es (i + 1)
def entsOf : AVal → M (List Ent)
  | .nilm => M.pure []
  | .map id => (getB id).bind (mapK fun es _ => M.pure es)
  | _ => fail "map expected"
def okV (ok : Bool) (v : AVal) (is : Bool) : AVal := match ok with
  | true => .tup [v, .blit is]
  | false => v
def lookupM (t : TypeId) (x k : AVal) (ok : Bool) : M AVal :=
  (und E t).bind fun d => match d with
    | .map kt et => (entsOf x).bind fun es => (keyB E 100 kt k).bind fun _ => (findA E kt k es 0).bind fun r => match r with
      | some p => M.pure (okV ok p.2 true)
      | none => (zeroOf E et).bind fun z => M.pure (okV ok z false)
    | _ => fail "lookup"
def setVal (es : List Ent) (i : Nat) (v : AVal) : List Ent := es.modify i fun e => (e.1, v, e.2.2)
def mapEntryM (t : TypeId) (x k : AVal) : M AVal :=
  (und E t).bind fun d => match d with
    | .map kt et => match x with
      | .map id => (getB id).bind (mapK fun es ck => (keyB E 100 kt k).bind fun _ => (findA E kt k es 0).bind fun r => match r with
        | some p => (getO "entry" es[p.1]?).bind fun e => match sameKey e.1 k with
          | true => (setB id (.map es ck)).bind fun _ => M.pure (.tup [p.2, .int .i64 e.2.2])
          | false => fail "a key that is not the same bit by bit"
        | none => (zeroOf E et).bind fun z => (setB id (.map (es ++ [(k, z, ck)]) (ck + 1))).bind fun _ => M.pure (.tup [z, .int .i64 ck]))
      | _ => fail "mapEntry"
    | _ => fail "mapEntry"
def bornAt (n : Int) : List Ent → Nat → Option Nat
  | [], _ => none
  | e :: es, i => match ((e.2.2 : Int) == n) with
    | true => some i
    | false => bornAt n es (i + 1)
def entryStoreM (x st v : AVal) : M AVal :=
  match x with
  | .map id => (getB id).bind (mapK fun es ck => intK (fun n => (getO "entryStore" (bornAt n es 0)).bind fun i => (setB id (.map (setVal es i v) ck)).bind fun _ => M.pure undef) st)
  | _ => fail "entryStore"
def mapUpdateM (t : TypeId) (x k v : AVal) : M AVal :=
  (und E t).bind fun d => match d with
    | .map kt et => match x with
      | .map id => (getB id).bind (mapK fun es ck => (keyB E 100 kt k).bind fun _ => (findA E kt k es 0).bind fun r => match r with
        | some p => (getO "entry" es[p.1]?).bind fun e => match sameKey e.1 k with
          | true => (setB id (.map (setVal es p.1 v) ck)).bind fun _ => M.pure undef
          | false => fail "a key that is not the same bit by bit"
        | none => (setB id (.map (es ++ [(k, v, ck)]) (ck + 1))).bind fun _ => M.pure undef)
      | _ => fail "mapUpdate"
    | _ => fail "mapUpdate"
def makeMapM (r : Option AVal) : M AVal :=
  match r with
  | none => (newB (.map [] 0)).bind fun id => M.pure (.map id)
  | some _ => fail "makeMap"
def entryM (x : AVal) : M AVal :=
  match x with
  | .ptr id off => match off.beq 0 with
    | true => (getB id).bind fun b => match b with
      | .miter mm _ seen last => (getB mm).bind fun c => match c with
        | .map es ck => match ck.beq last with
          | true => (getO "entry" seen.getLast?).bind fun st => (getO "entry" (es.find? fun e => e.2.2.beq st)).bind fun e => M.pure (.tup [e.1, e.2.1])
          | false => fail "entry"
        | _ => fail "entry"
      | _ => fail "entry"
    | false => fail "entry"
  | _ => fail "entry"
def bDelete (ts : List TypeId) (x k : AVal) : M AVal :=
  match ts with
  | t :: _ => (und E t).bind fun d => match d with
    | .map kt _ => match x with
      | .map id => (getB id).bind (mapK fun es ck => (keyB E 100 kt k).bind fun _ => (findA E kt k es 0).bind fun r => match r with
        | some p => (setB id (.map (es.eraseIdx p.1) ck)).bind fun _ => M.pure (.tup [])
        | none => (setB id (.map es ck)).bind fun _ => M.pure (.tup []))
      | _ => fail "delete"
    | _ => fail "delete"
  | [] => fail "delete"
def intB : TypeDesc → Bool
  | .int _ => true
  | _ => false
def bAppend (ts : List TypeId) (s x : AVal) : M AVal :=
  match ts with
  | t :: t2 :: _ => (und E t2).bind fun d => match intB d with
    | true => match ts with
      | _ :: _ :: [] => intK (appendZ E t s) x
      | _ => fail "append of a make"
    | false => append E t s x
  | _ => fail "append"
def bCopy (ts : List TypeId) (x y : AVal) : M AVal :=
  match ts with
  | t :: _ => copy E t x y
  | [] => fail "copy"
def capOf : AVal → M Nat
  | .nils => M.pure 0
  | .emp => M.pure 0
  | .sl _ _ _ cap _ => match cap with
    | some c => M.pure c
    | none => fail "cap: not known"
  | _ => fail "cap"
def bCap (ts : List TypeId) (x : AVal) : M AVal :=
  match ts with
  | t :: _ => (und E t).bind fun d => match d with
    | .slice _ => (capOf x).bind fun n => M.pure (.int .i64 n)
    | _ => fail "cap"
  | [] => fail "cap"
def bClear (ts : List TypeId) (x : AVal) : M AVal :=
  match ts with
  | t :: _ => (und E t).bind fun d => match d with
    | .slice e => match x with
      | .nils => M.pure (.tup [])
      | .emp => M.pure (.tup [])
      | .sl id off len _ sz => (ask (len.beq 0)).bind fun nothing => match nothing with
        | true => M.pure (.tup [])
        | false => (ti E e).bind fun i => sameSz i.size sz ((writeCells (.ptr id off) (reps i.zero.cells len)).bind fun _ => M.pure (.tup []))
      | _ => fail "clear"
    | .map _ _ => match x with
      | .nilm => M.pure (.tup [])
      | .map id => (getB id).bind (mapK fun _ ck => (setB id (.map [] ck)).bind fun _ => M.pure (.tup []))
      | _ => fail "clear"
    | _ => fail "clear"
  | [] => fail "clear"
def one1 (k : AVal → M AVal) : List AVal → M AVal
  | [x] => k x
  | _ => fail "one argument expected"
def two2 (k : AVal → AVal → M AVal) : List AVal → M AVal
  | [x, y] => k x y
  | _ => fail "two arguments expected"
def some1 (k : AVal → List AVal → M AVal) : List AVal → M AVal
  | x :: l => k x l
  | [] => fail "an argument expected"
def builtin (b : Builtin) (ts : List TypeId) (args : List AVal) : M AVal :=
  match b with
  | .len => one1 (bLen E ts) args
  | .append => two2 (bAppend E ts) args
  | .copy => two2 (bCopy E ts) args
  | .min => some1 (foldM2 min2) args
  | .max => some1 (foldM2 max2) args
  | .cap => one1 (bCap E ts) args
  | .clear => one1 (bClear E ts) args
  | .delete => two2 (bDelete E ts) args
  | _ => fail "builtin"
def ops2 (tm : List AVal) : List (Nat × Operand) → List (Nat × AVal)
  | [] => []
  | p :: l => (p.1, opd tm p.2) :: ops2 tm l
def opt (tm : List AVal) : Option Operand → Option AVal
  | none => none
  | some x => some (opd tm x)
def doPick (t a b : AVal) : M AVal := (branch t).bind fun t => match t with
  | true => M.pure a
  | false => M.pure b
def doStore (t : TypeId) (a v : AVal) : M AVal := (store E t a v).bind fun _ => M.pure undef
def nilCheck (x : AVal) : M AVal :=
  match x with
  | .ptr id off => M.pure (.ptr id off)
  | .ip f n off => M.pure (.ip f n off)
  | .fn f a c => match f with
    | .func g => M.pure (.fn (.func g) a c)
    | .yield g => M.pure (.fn (.yield g) a c)
    | _ => fail "nilCheck"
  | _ => fail "nilCheck"
def doCall (tm : List AVal) (c : Call) : M AVal :=
  match c.callee with
  | .value f => callV E rec (opd tm f) (opds tm c.args.toList)
  | .builtin b => builtin E b c.argTypes.toList (opds tm c.args.toList)
  | .invoke _ _ => fail "invoke"
def doAlloc (t : TypeId) : M AVal := (zeroOf E t).bind fun z => alloc E t z
def execOp (tm : List AVal) (o : Op) : M AVal :=
  match o with
  | .move x => M.pure (opd tm x)
  | .assign x => M.pure (opd tm x)
  | .pick c a b => doPick (opd tm c) (opd tm a) (opd tm b)
  | .alloc t => doAlloc E t
  | .box t x => alloc E t (opd tm x)
  | .build t ps => build E t (ops2 tm ps.toList)
  | .buildSlice t n ps => buildSlice E t n (ops2 tm ps.toList)
  | .load t a => load E t (opd tm a)
  | .store t a x => doStore E t (opd tm a) (opd tm x)
  | .nilCheck x => nilCheck (opd tm x)
  | .binOp op t x y _ => binOp E op t (opd tm x) (opd tm y)
  | .unOp op _ x => unOp op (opd tm x)
  | .convert s d x => convert E s d (opd tm x)
  | .makeFunc f a c => match f with
    | .func g => M.pure (.fn (.func g) (opds tm a.toList) (opds tm c.toList))
    | _ => fail "makeFunc"
  | .makeSlice t l c => makeSlice E t (opd tm l) (opd tm c)
  | .slice t x lo hi mx => slice E t (opd tm x) (opt tm lo) (opt tm hi) (opt tm mx)
  | .fieldAddr t x f => fieldAddr E t (opd tm x) f
  | .field t x f => field E t (opd tm x) f
  | .indexAddr t x i => indexAddr E t (opd tm x) (opd tm i)
  | .index t x i => index E t (opd tm x) (opd tm i)
  | .range t x => range E t (opd tm x)
  | .next x s => match s with
    | true => next (opd tm x)
    | false => fail "next of a map"
  | .extract x i => extract (opd tm x) i
  | .call c => doCall E rec tm c
  | .makeMap _ r => makeMapM (opt tm r)
  | .entry x => entryM (opd tm x)
  | .lookup t x k ok => lookupM E t (opd tm x) (opd tm k) ok
  | .mapUpdate t x k y => mapUpdateM E t (opd tm x) (opd tm k) (opd tm y)
  | .insert t x k y => mapUpdateM E t (opd tm x) (opd tm k) (opd tm y)
  | .mapEntry t x k => mapEntryM E t (opd tm x) (opd tm k)
  | .entryStore _ x st y => entryStoreM (opd tm x) (opd tm st) (opd tm y)
  | _ => fail "an operation that is not known"
def putT (tm : List AVal) (d : Option Tmp) (v : AVal) : List AVal :=
  match d with
  | some d => put tm d v
  | none => tm
def wantB (want : Bool) : AVal → M Bool
  | .bool b => (ask b).bind fun t => M.pure (t == want)
  | .blit b => M.pure (b == want)
  | .junk => fail "guard"
  | _ => M.pure false
def wanted (ops : List Oper) (tm : List AVal) (g : Option (Nat × Bool)) : M Bool :=
  match g with
  | none => M.pure true
  | some p => match (ops[p.1]?).bind (·.dst) with
    | none => M.pure false
    | some d => wantB p.2 (nth tm d undef)
def opV (ops : List Oper) (o : Oper) (tm : List AVal) : M AVal :=
  (wanted ops tm o.guard).bind fun w => match w with
    | true => execOp E rec tm o.op
    | false => M.pure undef
def opAt (ops : List Oper) (o : Oper) (tm : List AVal) : M (List AVal) := (opV E rec ops o tm).bind fun v => M.pure (putT tm o.dst v)
def evalOps (ops : List Oper) : List Oper → List AVal → M (List AVal)
  | [], tm => M.pure tm
  | o :: rest, tm => (opAt E rec ops o tm).bind fun tm => evalOps ops rest tm
structure Foot where
  j : Nat
  r : List Nat
  w : List Nat
  lo : Nat
  hi : Nat
def old (lo hi id : Nat) : Bool := id.blt lo || hi.ble id
def footF {α : Type} (j : Nat) (m : M α) (s : St) : Res (α × Foot) :=
  match m.run { s with rds := [], wrs := [] } with
  | .ok a s' => .ok (a, ⟨j, s'.rds.filter (old s.next s'.next), s'.wrs.filter (old s.next s'.next), s.next, s'.next⟩) { s' with rds := s'.rds ++ s.rds, wrs := s'.wrs ++ s.wrs }
  | .fail w => .fail w
  | .ask b => .ask b
theorem loc_foot {α : Type} (j : Nat) (m : M α) : Loc (footF j m) := by
  intro s a s' h
  unfold footF at h
  cases hm : m.run { s with rds := [], wrs := [] } with
  | fail w => rw [hm] at h; cases h
  | ask b => rw [hm] at h; cases h
  | ok a1 s1 =>
    rw [hm] at h
    injection h with h1 h2
    subst h1; subst h2
    obtain ⟨r, w, o, d⟩ := m.loc _ _ _ hm
    have er : s1.rds = r := by simpa using d.rds
    have ew : s1.wrs = w := by simpa using d.wrs
    refine ⟨r, w, o, ⟨d.next, by simp [er], by simp [ew], d.obs, d.rest, d.live, fun t hn ho hg => ?_, d.orc, d.rlive⟩⟩
    obtain ⟨t', e, hn', ho', hr', hw', hob', hg', hk'⟩ := d.again { t with rds := [], wrs := [] } hn ho hg
    have er' : t'.rds = r := by simpa using hr'
    have ew' : t'.wrs = w := by simpa using hw'
    refine ⟨{ t' with rds := t'.rds ++ t.rds, wrs := t'.wrs ++ t.wrs }, ?_, hn', ho', by simp [er'], by simp [ew'], hob', hg', hk'⟩
    unfold footF
    rw [e]
    simp only [hn, hn', er, ew, er', ew']
def foot {α : Type} (j : Nat) (m : M α) : M (α × Foot) := ⟨footF j m, loc_foot j m⟩
def meets (x y : List Nat) : Bool := x.any fun a => y.any fun b => a.beq b
def within (lo hi id : Nat) : Bool := lo.ble id && id.blt hi
def hits (x : List Nat) (f : Foot) : Bool := match f.lo.beq f.hi with
  | true => false
  | false => x.any (within f.lo f.hi)
def clash (a b : Foot) : Bool := meets a.w b.r || (meets a.w b.w || (meets a.r b.w || (hits a.r b || (hits a.w b || (hits b.r a || hits b.w a)))))
def bitsOf (acc : List Nat) : List Edge → Nat
  | [] => 0
  | e :: l => match Region.binds .any e with
    | true => bitsOf acc l ||| (2 ^ e.on ||| acc.getD e.on 0)
    | false => bitsOf acc l
def befores (acc : List Nat) : List Oper → List Nat
  | [] => acc
  | o :: l => befores (acc ++ [bitsOf acc o.after.toList]) l
def fine (bs : List Nat) : List Foot → Bool
  | [] => true
  | b :: l => l.all (fun a => (clash a b).not || (bs.getD b.j 0).testBit a.j) && fine bs l
def evalFeet (ops : List Oper) : Nat → List Oper → List AVal → List Foot → M (List AVal × List Foot)
  | _, [], tm, fs => M.pure (tm, fs)
  | j, o :: rest, tm, fs => (foot j (opV E rec ops o tm)).bind fun r => evalFeet ops (j + 1) rest (putT tm o.dst r.1) (r.2 :: fs)
def tmpsOf : List Operand → List Nat
  | [] => []
  | x :: l => match x with
    | .tmp t => t :: tmpsOf l
    | _ => tmpsOf l
def looks (ops : List Oper) (o : Oper) : List Nat :=
  tmpsOf o.op.operands.toList ++
  (match o.guard with
   | some p => ((ops[p.1]?).bind (·.dst)).toList
   | none => [])
def textFeet (ops : List Oper) (j : Nat) : List Oper → List Foot → List Foot
  | [], fs => fs
  | o :: rest, fs => textFeet ops (j + 1) rest (⟨j, looks ops o, o.dst.toList, 0, 0⟩ :: fs)
def backB (j : Nat) : List Oper → Bool
  | [] => true
  | o :: l => o.after.toList.all (fun e => match Region.binds .any e with
      | true => e.on.blt j
      | false => true) && backB (j + 1) l
def textFine (ops : List Oper) : Bool := backB 0 ops && fine (befores [] ops) (textFeet ops 0 ops [])
def evalDraw (ops : List Oper) (tm : List AVal) : M (List AVal) :=
  (ob (textFine ops)).bind fun _ => (evalFeet E rec ops 0 ops tm []).bind fun r => (ob (fine (befores [] ops) r.2)).bind fun _ => M.pure r.1
def rangeK (id : Nat) (tm : List AVal) : M (AExit × List AVal) :=
  (getB id).bind (loopK fun l => match l.state with
    | .busy => fail "busy"
    | _ => (setB id (.loop { l with state := .exhausted })).bind fun _ => match l.pending with
      | none => M.pure (.normal, tm)
      | some c => match c with
        | .ret => M.pure (.ret, tm)
        | .exit j => M.pure (.exit j, tm)
        | _ => fail "pending")
def forgetL : List Bool → List AVal → List AVal
  | [], tm => tm
  | _ :: _, [] => []
  | b :: k, a :: tm => (match b with | true => a | false => .junk) :: forgetL k tm
def forget (fn : FuncId) (tm : List AVal) : List AVal :=
  match (E.funcs.find fn).i.keep with
  | none => tm
  | some k => forgetL k tm
noncomputable def step (fn : FuncId) (rnd : Option Nat) (c : Code) (tm : List AVal) : M (AExit × List AVal) :=
  match c with
  | .skip => M.pure (.normal, tm)
  | .label _ => M.pure (.normal, tm)
  | .region id ops draw => match draw with
    | false => (evalOps E rec ops.toList ops.toList tm).bind fun tm => M.pure (.normal, forget E fn tm)
    | true => match chookAt E.rhooks fn id (.region id ops true) with
      | some act => act tm
      | none => (evalDraw E rec ops.toList tm).bind fun tm => M.pure (.normal, forget E fn tm)
  | .seq a b => (rec fn rnd a tm).bind fun r => match r.1 with
    | .normal => rec fn rnd b r.2
    | _ => M.pure r
  | .cond c a b => (branch (opd tm c)).bind fun t => match t with
    | true => rec fn rnd a tm
    | false => rec fn rnd b tm
  | .block id c => match chookAt E.bhooks fn id (.block id c) with
    | some act => act tm
    | none => (rec fn rnd c tm).bind fun r => match r.1 with
      | .exit j => match j.beq id with
        | true => M.pure (.normal, r.2)
        | false => M.pure r
      | _ => M.pure r
  | .loop c => (rec fn rnd c tm).bind fun r => match r.1 with
    | .normal => rec fn rnd (.loop c) r.2
    | _ => M.pure r
  | .rangeFunc f ps assign body => match opd tm f with
    | .fn g first cap => match g with
      | .func g => match (E.funcs.find g).f.beq g with
        | true => (match rnd with
            | none => M.pure ()
            | some l0 => (getB l0).bind (loopK fun _ => M.pure ())).bind fun _ =>
          (newB (.loop { state := .ready, pending := none, fn, tmps := tm, params := ps.toList, assign, body })).bind fun id =>
          (callF E rec g (first ++ [AVal.fn (.yield id) [] []] ++ cap)).bind fun _ => rangeK id tm
        | false => fail "range over a function"
      | _ => fail "range over a function"
    | _ => fail "range over a function"
  | .exit id => M.pure (.exit id, tm)
  | .scope c => rec fn rnd c tm
  | .ret => M.pure (.ret, tm)
  | _ => fail "code"
noncomputable def evalC : Nat → Rec
  | 0 => fun _ _ _ _ => fail "fuel"
  | n + 1 => step E (evalC n)
end Go.Am
set_option linter.unusedSimpArgs false
set_option linter.unusedVariables false
namespace Go.Am
open Go
variable {E : Env}
theorem pure_ok {α : Type} {a b : α} {s s' : St} (h : (M.pure a).run s = .ok b s') : b = a ∧ s' = s := by
 simp only [M.pure] at h
 injection h with h1 h2
 exact ⟨h1.symm, h2.symm⟩
theorem fail_ok {α : Type} {w : String} {b : α} {s s' : St} (h : (fail w : M α).run s = .ok b s') : False := by
 simp only [fail] at h
 cases h
structure Same (s s' : St) : Prop where
 heap : s'.heap = s.heap
 next : s'.next = s.next
theorem Same.refl (s : St) : Same s s := ⟨rfl, rfl⟩
theorem Same.trans {a b c : St} (h : Same a b) (h' : Same b c) : Same a c := ⟨h'.heap.trans h.heap, h'.next.trans h.next⟩
theorem ob_ok {b : Bool} {u : Unit} {s s' : St} (h : (ob b).run s = .ok u s') (ho : OkObs s') : b = true ∧ Same s s' := by
 simp only [ob, obF] at h
 cases b with
 | true =>
  injection h with h1 h2
  subst h2
  exact ⟨rfl, rfl, rfl⟩
 | false =>
  injection h with h1 h2
  subst h2
  simp only [OkObs, List.all_cons, id, Bool.and_eq_true] at ho
  exact absurd ho.1 (by decide)
theorem ask_ok {b a : Bool} {s s' : St} (h : (ask b).run s = .ok a s') (ho : OkObs s') : a = b ∧ Same s s' := by
 simp only [ask, askF] at h
 split at h
 ·injection h with h1 h2
  subst h1; subst h2
  exact ⟨rfl, rfl, rfl⟩
 ·cases h
 ·injection h with h1 h2
  subst h1; subst h2
  simp only [OkObs, List.all_cons, id, Bool.and_eq_true] at ho
  exact ⟨(beq_iff_eq.1 ho.1).symm, rfl, rfl⟩
theorem branch_ok {v : AVal} {a : Bool} {s s' : St} (h : (branch v).run s = .ok a s') (ho : OkObs s') : (v = .bool a ∨ v = .blit a) ∧ Same s s' := by
 unfold branch at h
 split at h
 ·obtain ⟨h1, h2⟩ := pure_ok h
  subst h1; subst h2
  exact ⟨.inr rfl, .refl _⟩
 ·obtain ⟨h1, h2⟩ := ask_ok h ho
  subst h1
  exact ⟨.inl rfl, h2⟩
 ·exact (fail_ok h).elim
theorem get_ok {id : Nat} {b : Blk} {s s' : St} (h : (getB id).run s = .ok b s') : s.heap.get id = some b ∧ Same s s' := by
 simp only [getB, getF] at h
 cases hg : s.heap.get id with
 | none => rw [hg] at h; cases h
 | some b0 =>
  rw [hg] at h
  injection h with h1 h2
  subst h1; subst h2
  exact ⟨rfl, rfl, rfl⟩
theorem setF_ok {id : Nat} {b : Option Blk} {u : Unit} {s s' : St} (h : setF id b s = .ok u s') :
  s.heap.get id ≠ none ∧ s'.next = s.next ∧ ∀ j, s'.heap.get j = if j = id then b else s.heap.get j := by
 unfold setF at h
 cases hg : s.heap.get id with
 | none => rw [hg] at h; cases h
 | some b0 =>
  rw [hg] at h
  injection h with _ h2
  subst h2
  exact ⟨by simp, rfl, fun j => Tr.get_put s.heap id b j⟩
theorem set_ok {id : Nat} {b : Blk} {u : Unit} {s s' : St} (h : (setB id b).run s = .ok u s') :
  s.heap.get id ≠ none ∧ s'.next = s.next ∧ ∀ j, s'.heap.get j = if j = id then some b else s.heap.get j := setF_ok h
theorem kill_ok {id : Nat} {u : Unit} {s s' : St} (h : (kill id).run s = .ok u s') :
  s.heap.get id ≠ none ∧ s'.next = s.next ∧ ∀ j, s'.heap.get j = if j = id then none else s.heap.get j := setF_ok h
theorem new_ok {id : Nat} {b : Blk} {s s' : St} (h : (newB b).run s = .ok id s') :
  id = s.next ∧ s'.next = s.next + 1 ∧ ∀ j, s'.heap.get j = if j = id then some b else s.heap.get j := by
 simp only [newB, newF] at h
 injection h with h1 h2
 subst h1; subst h2
 exact ⟨rfl, rfl, fun j => Tr.get_put s.heap s.next (some b) j⟩
theorem row_ok {α : Type} {k : Cont → TypeId → M α} {b : Blk} {a : α} {s s' : St} (h : (rowK k b).run s = .ok a s') : ∃ c t, b = .row c t ∧ (k c t).run s = .ok a s' := by
 unfold rowK at h
 split at h
 ·exact ⟨_, _, rfl, h⟩
 ·exact (fail_ok h).elim
theorem loopK_ok {α : Type} {k : ALoop → M α} {b : Blk} {a : α} {s s' : St} (h : (loopK k b).run s = .ok a s') : ∃ l, b = .loop l ∧ (k l).run s = .ok a s' := by
 unfold loopK at h
 split at h
 ·exact ⟨_, rfl, h⟩
 ·exact (fail_ok h).elim
theorem getO_ok {α : Type} {why : String} {o : Option α} {a : α} {s s' : St} (h : (getO why o).run s = .ok a s') : o = some a ∧ s' = s := by
 unfold getO at h
 split at h
 ·obtain ⟨h1, h2⟩ := pure_ok h
  exact ⟨by rw [h1], h2⟩
 ·exact (fail_ok h).elim
theorem int_ok {α : Type} {k : Int → M α} {v : AVal} {a : α} {s s' : St} (h : (intK k v).run s = .ok a s') : ∃ q n, v = .int q n ∧ (k n).run s = .ok a s' := by
 unfold intK at h
 split at h
 ·exact ⟨_, _, rfl, h⟩
 ·exact (fail_ok h).elim
theorem str_ok {α : Type} {k : List UInt8 → M α} {v : AVal} {a : α} {s s' : St} (h : (strK k v).run s = .ok a s') : ∃ l, v = .str l ∧ (k l).run s = .ok a s' := by
 unfold strK at h
 split at h
 ·exact ⟨_, rfl, h⟩
 ·exact (fail_ok h).elim
theorem agg_ok {α : Type} {k : List AVal → M α} {v : AVal} {a : α} {s s' : St} (h : (aggK k v).run s = .ok a s') : ∃ l, v = .agg l ∧ (k l).run s = .ok a s' := by
 unfold aggK at h
 split at h
 ·exact ⟨_, rfl, h⟩
 ·exact (fail_ok h).elim
theorem sameSz_ok {α : Type} {n z : Nat} {k : M α} {a : α} {s s' : St} (h : (sameSz n z k).run s = .ok a s') : n = z ∧ k.run s = .ok a s' := by
 unfold sameSz at h
 split at h
 ·rename_i e; exact ⟨Nat.eq_of_beq_eq_true e, h⟩
 ·exact (fail_ok h).elim
theorem ti_ok {t : TypeId} {i : TI} {s s' : St} (h : (ti E t).run s = .ok i s') : TOk E.P t i ∧ s' = s := by
 unfold ti at h
 cases hb : (E.types.find t).t.beq t with
 | true =>
  rw [hb] at h
  obtain ⟨h1, h2⟩ := pure_ok h
  have := (E.types.find t).ok
  rw [Nat.eq_of_beq_eq_true hb] at this
  subst h1
  exact ⟨this, h2⟩
 | false => rw [hb] at h; exact (fail_ok h).elim
theorem und_ok {t : TypeId} {d : TypeDesc} {s s' : St} (h : (und E t).run s = .ok d s') : (∃ i, TOk E.P t i ∧ i.desc = d) ∧ s' = s := by
 obtain ⟨i, s1, h1, h2⟩ := M.bind_ok h
 obtain ⟨hi, rfl⟩ := ti_ok h1
 obtain ⟨rfl, rfl⟩ := pure_ok h2
 exact ⟨⟨i, hi, rfl⟩, rfl⟩
theorem sizeOf_ok {t : TypeId} {n : Nat} {s s' : St} (h : (sizeOf E t).run s = .ok n s') : (∃ i, TOk E.P t i ∧ i.size = n) ∧ s' = s := by
 obtain ⟨i, s1, h1, h2⟩ := M.bind_ok h
 obtain ⟨hi, rfl⟩ := ti_ok h1
 obtain ⟨rfl, rfl⟩ := pure_ok h2
 exact ⟨⟨i, hi, rfl⟩, rfl⟩
theorem zeroOf_ok {t : TypeId} {v : AVal} {s s' : St} (h : (zeroOf E t).run s = .ok v s') : (∃ i, TOk E.P t i ∧ i.zero = v) ∧ s' = s := by
 obtain ⟨i, s1, h1, h2⟩ := M.bind_ok h
 obtain ⟨hi, rfl⟩ := ti_ok h1
 obtain ⟨rfl, rfl⟩ := pure_ok h2
 exact ⟨⟨i, hi, rfl⟩, rfl⟩
section
variable {P : Program} {t : TypeId} {i : TI} {w : World}
theorem TOk.run_und (h : TOk P t i) : (underlying t).run P w = .ok i.desc w := run_underlying h.und w
theorem TOk.run_size (h : TOk P t i) : (Go.sizeOf t).run P w = .ok i.size w := by
 obtain ⟨j, z, hj, hs, _⟩ := h.info
 simp [Go.sizeOf, typeInfo, hj, hs]
theorem TOk.size_info (h : TOk P t i) : (P.info? t).map (·.size) = some i.size := by
 obtain ⟨j, z, hj, hs, _⟩ := h.info
 simp [hj, hs]
theorem TOk.run_info (h : TOk P t i) : ∃ j, (typeInfo t).run P w = .ok j w ∧ j.size = i.size ∧ j.bytes = i.bytes ∧ ∃ z, j.zero = some z ∧ ofValue z = i.zero := by
 obtain ⟨j, z, hj, hs, hb, hz, hv⟩ := h.info
 exact ⟨j, by simp [typeInfo, hj], hs, hb, z, hz, hv⟩
theorem TOk.run_zero (h : TOk P t i) : ∃ z, (zeroValue t).run P w = .ok z w ∧ ofValue z = i.zero := by
 obtain ⟨j, z, hj, hs, hb, hz, hv⟩ := h.info
 exact ⟨z, by simp [zeroValue, typeInfo, hj, hz], hv⟩
theorem TOk.run_isAgg (h : TOk P t i) : (isAgg t).run P w = .ok (aggB i.desc) w := by
 unfold isAgg
 rw [Sem.run_bind, h.run_und, Result.andThen_ok]
 cases i.desc <;> rfl
end
theorem ofList_length : ∀ l, (ofList l).length = l.length
 | [] => rfl
 | v :: l => by simp [ofList, ofList_length l]
theorem ofList_get : ∀ (l : List Value) (i : Nat), (ofList l)[i]? = (l[i]?).map ofValue
 | [], i => by simp [ofList]
 | v :: l, 0 => by simp [ofList]
 | v :: l, i + 1 => by simp [ofList, ofList_get l i]
mutual
theorem ofValue_junk {ρ : Ren} {m : Mem} : ∀ v, R ρ m (ofValue v) v
 | .bool b => .bool b
 | .int k n => .int k n
 | .string s => by
  obtain ⟨⟨l⟩⟩ := s
  exact .str l
 | .pointer none => .nilp
 | .slice none 0 0 => .nils
 | .map none => .nilm
 | .nilFunc => .nilf
 | .nilIface => .nili
 | .agg c => by
  have := ofArr_junk (ρ := ρ) (m := m) c
  exact .agg _ _ this.1 this.2
 | .tuple c => by
  have := ofArr_junk (ρ := ρ) (m := m) c
  exact .tup _ _ this.1 this.2
 | .float _ _ => by simp only [ofValue]; exact .junk _
 | .complex _ _ _ => by simp only [ofValue]; exact .junk _
 | .pointer (some _) => by simp only [ofValue]; exact .junk _
 | .slice (some _) _ _ => by simp only [ofValue]; exact .junk _
 | .slice none (_ + 1) _ => by simp only [ofValue]; exact .junk _
 | .slice none 0 (_ + 1) => by simp only [ofValue]; exact .junk _
 | .map (some _) => by simp only [ofValue]; exact .junk _
 | .chan _ => by simp only [ofValue]; exact .junk _
 | .func _ _ _ => by simp only [ofValue]; exact .junk _
 | .iface _ _ => by simp only [ofValue]; exact .junk _
theorem ofArr_junk {ρ : Ren} {m : Mem} : ∀ c, (ofArr c).length = c.size ∧ ∀ (i : Nat) v x, (ofArr c)[i]? = some v → c[i]? = some x → R ρ m v x
 | ⟨l⟩ => by
  have := ofList_junk (ρ := ρ) (m := m) l
  refine ⟨by simp [ofArr, ofList_length], fun i v x hv hx => ?_⟩
  simp only [ofArr, ofList_get] at hv
  simp only [List.getElem?_toArray] at hx
  rw [hx] at hv
  simp only [Option.map_some, Option.some.injEq] at hv
  subst hv
  exact this i x hx
theorem ofList_junk {ρ : Ren} {m : Mem} : ∀ l : List Value, ∀ (i : Nat) x, l[i]? = some x → R ρ m (ofValue x) x
 | [], i, x, hx => by simp at hx
 | v :: l, 0, x, hx => by
  simp at hx
  subst hx
  exact ofValue_junk v
 | v :: l, i + 1, x, hx => by
  simp at hx
  exact ofList_junk l i x hx
end
theorem R.cells {ρ : Ren} {m : Mem} {v : AVal} {x : Value} (h : R ρ m v x) (hj : v ≠ .junk) : RL ρ m v.cells x.cells := by
 cases h with
 | agg l c hl hr => exact ⟨hl, hr⟩
 | junk => exact absurd rfl hj
 | _ =>
  refine ⟨rfl, fun i a b ha hb => ?_⟩
  cases i with
  | zero => simp [AVal.cells, Value.cells] at ha hb; subst ha; subst hb; constructor <;> assumption
  | succ i => simp [AVal.cells] at ha
theorem cellsOf_length (g : Nat → AVal) : ∀ (n off : Nat), (cellsOf g off n).length = n
 | 0, _ => rfl
 | n + 1, off => by simp [cellsOf, cellsOf_length g n]
theorem cellsOf_get (g : Nat → AVal) : ∀ (n off i : Nat), i < n → (cellsOf g off n)[i]? = some (g (off + i))
 | 0, _, _, h => absurd h (Nat.not_lt_zero _)
 | n + 1, off, 0, _ => by simp [cellsOf]
 | n + 1, off, i + 1, h => by
  simp only [cellsOf, List.getElem?_cons_succ]
  rw [cellsOf_get g n (off + 1) i (by omega)]
  congr 2; omega
theorem nth_get : ∀ (l : List AVal) (i : Nat) (d : AVal), nth l i d = (l[i]?).getD d
 | [], i, d => by simp [nth]
 | a :: l, 0, d => by simp [nth]
 | a :: l, i + 1, d => by simp [nth, nth_get l i d]
theorem put_length : ∀ (l : List AVal) (i : Nat) (v : AVal), (put l i v).length = l.length
 | [], _, _ => rfl
 | _ :: _, 0, _ => rfl
 | a :: l, i + 1, v => by simp [put, put_length l i v]
theorem put_get : ∀ (l : List AVal) (i : Nat) (v : AVal) (j : Nat), (put l i v)[j]? = if j = i ∧ i < l.length then some v else l[j]?
 | [], i, v, j => by simp [put]
 | a :: l, 0, v, j => by
  cases j with
  | zero => simp [put]
  | succ j => simp [put]
 | a :: l, i + 1, v, j => by
  cases j with
  | zero => simp [put]
  | succ j => simp [put, put_get l i v j]
theorem Cont.sub_length {c : Cont} {off n : Nat} (h : off + n ≤ c.size) : (c.sub off n).length = n := by
 cases c with
 | l xs => simp only [Cont.size] at h; simp [Cont.sub]; omega
 | f k g => simp [Cont.sub, cellsOf_length]
theorem Cont.sub_get {c : Cont} {off n i : Nat} (h : off + n ≤ c.size) (hi : i < n) : (c.sub off n)[i]? = some (c.at (off + i)) := by
 cases c with
 | l xs =>
  simp only [Cont.size] at h
  simp only [Cont.sub, Cont.at, nth_get]
  rw [List.getElem?_take_of_lt hi, List.getElem?_drop]
  have : off + i < xs.length := by omega
  simp [List.getElem?_eq_getElem this]
 | f k g => simp only [Cont.sub, Cont.at]; exact cellsOf_get g n off i hi
theorem add_plain (b o n : Nat) : (⟨b, o, none⟩ : Addr).add n = ⟨b, o + n, none⟩ := by unfold Addr.add; split <;> simp_all
theorem Rel.row {P : Program} {ρ : Ren} {m : Mem} {h : Nat → Option Blk} {w : World} (hr : Rel P ρ m h w) {id : Nat} {c : Cont} {t : TypeId} (hg : h id = some (.row c t)) {r : RB} (hρ : ρ id = some r) :
  ∃ arr fr, w.heap[r.b]? = some (.cells arr t fr) ∧ (P.info? t).map (·.size) = some r.s ∧ arr.size = r.n ∧ c.size ≤ arr.size ∧ (∀ j x, j < c.size → arr[j]? = some x → R ρ m (c.at j) x) ∧ FrOk P t fr arr.size ∧ m r.b = none := by
 obtain ⟨rb, o, h1, h2, h3, h4⟩ := hr.live id _ hg
 rw [hρ] at h1
 injection h1 with h1
 subst h1
 cases h3 with
 | row c elem arr fr hs hn hc hrr hf => exact ⟨arr, fr, h2, hs, hn, hc, hrr, hf, h4⟩
theorem Mem.cell_world {P : Program} {ρ : Ren} {m : Mem} {h : Nat → Option Blk} {w : World} (hr : Rel P ρ m h w) {b o : Nat} {v : Value} (hc : m.cell b o = some v) : w.cell? ⟨b, o, none⟩ = some v := by
 unfold Mem.cell at hc
 cases hb : m b with
 | none => rw [hb] at hc; cases hc
 | some ob =>
  rw [hb] at hc
  cases ob with
  | cells c t f =>
   have := hr.mem b _ hb
   simp only at hc
   simp [World.cell?, this, hc]
  | _ => cases hc
theorem readCells_sim {P : Program} {v : AVal} {n : Nat} {cs : List AVal} {s s' : St} (h : (readCells v n).run s = .ok cs s') (ho : OkObs s') {ρ : Ren} {m : Mem} {w : World}
  (hr : Rel P ρ m s.heap.get w) {x : Value} (hx : R ρ m v x) :
  ∃ (a : Addr) (xs : List Value), x = .pointer (some a) ∧ (∀ j y, xs[j]? = some y → w.cell? (a.add j) = some y) ∧ xs.length = n ∧ RL ρ m cs xs.toArray ∧ cs.length = n ∧ Same s s' := by
 unfold readCells at h
 split at h
 ·rename_i id off
  obtain ⟨b, s1, h1, h2, ho1, _, _⟩ := M.bind_did h ho
  obtain ⟨hg, e1⟩ := get_ok h1
  obtain ⟨c, t, rfl, h3⟩ := row_ok h2
  obtain ⟨u, s2, h4, h5, ho2, _, _⟩ := M.bind_did h3 ho
  obtain ⟨hb, e2⟩ := ob_ok h4 ho2
  obtain ⟨rfl, rfl⟩ := pure_ok h5
  cases hx with
  | ptr id off r hρ =>
   obtain ⟨arr, fr, ha, hs, hn, hc, hrr, hf, hm⟩ := hr.row hg hρ
   have hle : off + n ≤ c.size := by simpa using hb
   refine ⟨_, (arr.toList.drop off).take n, rfl, ?_, by simp; omega, ⟨?_, ?_⟩, Cont.sub_length hle, e1.trans e2⟩
   ·intro j y hy
    rw [add_plain]
    have hj : j < n := by
     have := (List.getElem?_eq_some_iff.1 hy).1
     simp at this; omega
    rw [List.getElem?_take_of_lt hj, List.getElem?_drop] at hy
    simp only [World.cell?, ha]
    simpa using hy
   ·simp [Cont.sub_length hle]; omega
   ·intro i a y ha' hy
    have hi : i < n := by
     have := (List.getElem?_eq_some_iff.1 ha').1
     rw [Cont.sub_length hle] at this; exact this
    rw [Cont.sub_get hle hi] at ha'
    injection ha' with ha'
    subst ha'
    simp only [List.getElem?_toArray] at hy
    rw [List.getElem?_take_of_lt hi, List.getElem?_drop] at hy
    exact hrr _ y (by omega) (by simpa using hy)
 ·rename_i f k off
  obtain ⟨u, s2, h4, h5, ho2, _, _⟩ := M.bind_did h ho
  obtain ⟨hb, e2⟩ := ob_ok h4 ho2
  obtain ⟨rfl, rfl⟩ := pure_ok h5
  cases hx with
  | ip f k off b o g hg hrr =>
   have hle : off + n ≤ k := by simpa using hb
   refine ⟨_, (List.range n).map fun j => g (off + j), rfl, ?_, by simp, ⟨by simp [cellsOf_length], ?_⟩, cellsOf_length _ _ _, e2⟩
   ·intro j y hy
    rw [add_plain]
    simp only [List.getElem?_map] at hy
    have hj : j < n := by
     cases hj : (List.range n)[j]? with
     | none => rw [hj] at hy; cases hy
     | some q => have := (List.getElem?_eq_some_iff.1 hj).1; simpa using this
    rw [List.getElem?_range hj] at hy
    simp at hy
    subst hy
    have := Mem.cell_world hr (hg (off + j) (by omega))
    rw [← Nat.add_assoc] at this
    exact this
   ·intro i a y ha' hy
    have hi : i < n := by
     have := (List.getElem?_eq_some_iff.1 ha').1
     rw [cellsOf_length] at this; exact this
    rw [cellsOf_get _ _ _ _ hi] at ha'
    injection ha' with ha'
    subst ha'
    simp only [List.getElem?_toArray, List.getElem?_map, List.getElem?_range hi, Option.map_some, Option.some.injEq] at hy
    subst hy
    exact hrr _ (by omega)
 ·exact (fail_ok h).elim
end Go.Am
set_option linter.unusedSimpArgs false
set_option linter.unusedVariables false
namespace Go.Am
open Go
variable {E : Env}
def World.upd (w : World) (b : Nat) (o : Obj) : World := { w with heap := w.heap.setIfInBounds b o }
theorem World.upd_get (w : World) (b : Nat) (o : Obj) (h : b < w.heap.size) (j : Nat) : (World.upd w b o).heap[j]? = if j = b then some o else w.heap[j]? := by
 simp only [World.upd, Array.getElem?_setIfInBounds]
 by_cases e : b = j
 ·subst e; simp [h]
 ·have : ¬ j = b := fun x => e x.symm
  simp [e, this]
theorem World.upd_fr (w : World) (b : Nat) (o : Obj) : Fr w (World.upd w b o) := ⟨rfl, rfl, rfl, by simp [World.upd]⟩
theorem World.upd_same (w : World) (b : Nat) (o : Obj) (h : w.heap[b]? = some o) : World.upd w b o = w := by
 obtain ⟨hb, he⟩ := Array.getElem?_eq_some_iff.1 h
 have : w.heap.setIfInBounds b o = w.heap := by
  apply Array.ext_getElem?
  intro i
  rw [Array.getElem?_setIfInBounds]
  by_cases e : b = i
  ·subst e; simp [hb, h, he]
  ·simp [e]
 unfold World.upd
 rw [this]
theorem World.upd_upd (w : World) (b : Nat) (o o' : Obj) : World.upd (World.upd w b o) b o' = World.upd w b o' := by
 simp only [World.upd]
 congr 1
 apply Array.ext_getElem?
 intro i
 simp only [Array.getElem?_setIfInBounds, Array.size_setIfInBounds]
 by_cases e : b = i
 ·simp [e]
 ·simp [e]
theorem setCell_upd (w : World) (b off : Nat) (v : Value) (arr : Array Value) (t : TypeId) (fr : Nat × Nat) (h : w.heap[b]? = some (.cells arr t fr)) :
  w.setCell ⟨b, off, none⟩ v = World.upd w b (.cells (arr.setIfInBounds off v) t fr) := by
 obtain ⟨hb, he⟩ := Array.getElem?_eq_some_iff.1 h
 unfold World.setCell World.upd
 congr 1
 apply Array.ext_getElem?
 intro i
 rw [Array.getElem?_modify, Array.getElem?_setIfInBounds]
 by_cases e : b = i
 ·subst e
  simp [hb, h, he]
 ·simp [e]
theorem lt_of_heap {w : World} {b : Nat} {o : Obj} (h : w.heap[b]? = some o) : b < w.heap.size := (Array.getElem?_eq_some_iff.1 h).1
theorem Rel.upd {P : Program} {ρ : Ren} {m : Mem} {h h' : Nat → Option Blk} {w : World} (hr : Rel P ρ m h w) {id : Nat} {b0 b : Blk} {o : Obj} {r : RB} (hg : h id = some b0) (hρ : ρ id = some r)
  (hb : BR P ρ m r b o) (hh : ∀ j, h' j = if j = id then some b else h j) : Rel P ρ m h' (World.upd w r.b o) where
 live := fun j c hj => by
  obtain ⟨rb, o0, k1, k2, k3, k4⟩ := hr.live id b0 hg
  rw [hρ] at k1
  injection k1 with k1
  subst k1
  have hlt := lt_of_heap k2
  rw [hh j] at hj
  by_cases e : j = id
  ·subst e
   simp only [if_true, Option.some.injEq] at hj
   subst hj
   exact ⟨r, o, hρ, by rw [World.upd_get _ _ _ hlt]; simp, hb, k4⟩
  ·simp only [e, if_false] at hj
   obtain ⟨rb, o1, q1, q2, q3, q4⟩ := hr.live j c hj
   refine ⟨rb, o1, q1, ?_, q3, q4⟩
   rw [World.upd_get _ _ _ hlt]
   have : rb.b ≠ r.b := fun x => e (hr.inj j id c b0 rb r hj hg q1 hρ x)
   simp [this, q2]
 inj := fun i j b1 b2 r1 r2 h1 h2 h3 h4 h5 => by
  rw [hh] at h1 h2
  have g1 : ∃ c, h i = some c := by
   by_cases e : i = id
   ·subst e; exact ⟨_, hg⟩
   ·simp only [e, if_false] at h1; exact ⟨_, h1⟩
  have g2 : ∃ c, h j = some c := by
   by_cases e : j = id
   ·subst e; exact ⟨_, hg⟩
   ·simp only [e, if_false] at h2; exact ⟨_, h2⟩
  obtain ⟨c1, g1⟩ := g1
  obtain ⟨c2, g2⟩ := g2
  exact hr.inj i j c1 c2 r1 r2 g1 g2 h3 h4 h5
 mem := fun x ob hx => by
  obtain ⟨rb, o0, k1, k2, k3, k4⟩ := hr.live id b0 hg
  rw [hρ] at k1
  injection k1 with k1
  subst k1
  rw [World.upd_get _ _ _ (lt_of_heap k2)]
  have : x ≠ r.b := fun e => by subst e; rw [k4] at hx; cases hx
  simp [this, hr.mem x ob hx]
theorem Rel.kill {P : Program} {ρ : Ren} {m : Mem} {h h' : Nat → Option Blk} {w : World} (hr : Rel P ρ m h w) {id : Nat} (hh : ∀ j, h' j = if j = id then none else h j) : Rel P ρ m h' w where
 live := fun j c hj => by
  rw [hh j] at hj
  by_cases e : j = id
  ·simp [e] at hj
  ·simp only [e, if_false] at hj
   exact hr.live j c hj
 inj := fun i j b1 b2 r1 r2 h1 h2 h3 h4 h5 => by
  rw [hh] at h1 h2
  by_cases e : i = id
  ·simp [e] at h1
  by_cases e2 : j = id
  ·simp [e2] at h2
  simp only [e, e2, if_false] at h1 h2
  exact hr.inj i j b1 b2 r1 r2 h1 h2 h3 h4 h5
 mem := hr.mem
def Ren.put (ρ : Ren) (id : Nat) (r : RB) : Ren := fun j => if j = id then some r else ρ j
theorem RenLe.put {ρ : Ren} {id : Nat} {r : RB} (h : ρ id = none) : RenLe ρ (ρ.put id r) := fun j q hj => by
 unfold Ren.put
 by_cases e : j = id
 ·subst e; rw [h] at hj; cases hj
 ·simp [e, hj]
theorem alloc_get (w : World) (o : Obj) (j : Nat) : (w.alloc o).heap[j]? = if j = w.heap.size then some o else w.heap[j]? := by
 show (w.heap.push o)[j]? = _
 rw [Array.getElem?_push]
theorem Fr.alloc (w : World) (o : Obj) : Fr w (w.alloc o) := ⟨rfl, rfl, rfl, by rw [World.size_alloc]; omega⟩
theorem Fr.drew (w : World) : Fr w { w with drawn := w.drawn + 1 } := ⟨rfl, rfl, rfl, Nat.le_refl _⟩
theorem Rel.drew {P : Program} {ρ : Ren} {m : Mem} {h : Nat → Option Blk} {w : World} (hr : Rel P ρ m h w) : Rel P ρ m h { w with drawn := w.drawn + 1 } := ⟨hr.live, hr.inj, hr.mem⟩
theorem MLe.refl (m : Mem) : MLe m m := ⟨fun _ _ _ _ h => h⟩
theorem RenLe.refl (ρ : Ren) : RenLe ρ ρ := fun _ _ h => h
theorem Rel.new {P : Program} {ρ : Ren} {m : Mem} {h h' : Nat → Option Blk} {w : World} (hr : Rel P ρ m h w) {id n s : Nat} {b : Blk} {o : Obj} (hρ : ρ id = none)
  (hb : BR P (ρ.put id ⟨w.heap.size, n, s⟩) m ⟨w.heap.size, n, s⟩ b o) (hh : ∀ j, h' j = if j = id then some b else h j) : Rel P (ρ.put id ⟨w.heap.size, n, s⟩) m h' (w.alloc o) where
 live := fun j c hj => by
  rw [hh j] at hj
  by_cases e : j = id
  ·subst e
   simp only [if_true, Option.some.injEq] at hj
   subst hj
   refine ⟨_, o, by simp [Ren.put], by rw [alloc_get]; simp, hb, ?_⟩
   cases hm : m w.heap.size with
   | none => rfl
   | some q => have := lt_of_heap (hr.mem _ _ hm); omega
  ·simp only [e, if_false] at hj
   obtain ⟨rb, o1, q1, q2, q3, q4⟩ := hr.live j c hj
   refine ⟨rb, o1, RenLe.put hρ _ _ q1, ?_, q3.mono (RenLe.put hρ) (.refl m), q4⟩
   rw [alloc_get]
   have := lt_of_heap q2
   have : rb.b ≠ w.heap.size := by omega
   simp [this, q2]
 inj := fun i j b1 b2 r1 r2 h1 h2 h3 h4 h5 => by
  rw [hh] at h1 h2
  unfold Ren.put at h3 h4
  by_cases e : i = id
  ·by_cases e2 : j = id
   ·rw [e, e2]
   ·simp only [e, e2, if_true, if_false, Option.some.injEq] at h2 h3 h4
    obtain ⟨rb, o1, q1, q2, _⟩ := hr.live j b2 h2
    rw [q1] at h4
    injection h4 with h4
    subst h4
    have := lt_of_heap q2
    subst h3
    simp only at h5
    omega
  ·by_cases e2 : j = id
   ·simp only [e, e2, if_true, if_false, Option.some.injEq] at h1 h3 h4
    obtain ⟨rb, o1, q1, q2, _⟩ := hr.live i b1 h1
    rw [q1] at h3
    injection h3 with h3
    subst h3
    have := lt_of_heap q2
    subst h4
    simp only at h5
    omega
   ·simp only [e, e2, if_false] at h1 h2 h3 h4
    exact hr.inj i j b1 b2 r1 r2 h1 h2 h3 h4 h5
 mem := fun x ob hx => by
  rw [alloc_get]
  have := lt_of_heap (hr.mem x ob hx)
  have : x ≠ w.heap.size := by omega
  simp [this, hr.mem x ob hx]
theorem run_storeCells (P : Program) (b o : Nat) (t : TypeId) (fr : Nat × Nat) : ∀ (vs : List Value) (i : Nat) (w : World) (arr : Array Value), w.heap[b]? = some (.cells arr t fr) →
  (∀ j, j < arr.size → ¬ (fr.1 ≤ j ∧ j < fr.2)) → o + i + vs.length ≤ arr.size → (∀ v ∈ vs, v.oneCell' = true) →
  ∃ arr', (storeCells ⟨b, o, none⟩ vs i).run P w = .ok () (World.upd w b (.cells arr' t fr)) ∧ arr'.size = arr.size ∧ ∀ j, arr'[j]? = if o + i ≤ j ∧ j < o + i + vs.length then vs[j - (o + i)]? else arr[j]? := by
 intro vs
 induction vs with
 | nil =>
  intro i w arr h hf hl h1
  refine ⟨arr, ?_, rfl, fun j => ?_⟩
  ·rw [World.upd_same _ _ _ h]; rfl
  ·have : ¬ (o + i ≤ j ∧ j < o + i + ([] : List Value).length) := by simp
   rw [if_neg this]
 | cons v vs ih =>
  intro i w arr h hf hl h1
  simp only [List.length_cons] at hl
  have hv := h1 v (by simp)
  have hc : w.cell? ⟨b, o + i, none⟩ = some arr[o + i] := by
   simp only [World.cell?, h]
   simp [show o + i < arr.size by omega]
  have hz : w.frozen? ⟨b, o + i, none⟩ = false := by
   simp only [World.frozen?, h]
   have := hf (o + i) (by omega)
   simp only [Bool.and_eq_false_iff, decide_eq_false_iff_not]
   by_cases hle : fr.1 ≤ o + i
   ·right; exact fun hlt => this ⟨hle, hlt⟩
   ·left; exact hle
  have hs : (Go.store ((⟨b, o, none⟩ : Addr).add i) v).run P w = .ok () (World.upd w b (.cells (arr.setIfInBounds (o + i) v) t fr)) := by
   rw [add_plain]
   rw [run_store P w _ v .plain hv, hc]
   simp only [hz, Bool.false_eq_true, if_false]
   rw [setCell_upd _ _ _ _ _ _ _ h]
  have hlt := lt_of_heap h
  obtain ⟨arr', e1, e2, e3⟩ := ih (i + 1) (World.upd w b (.cells (arr.setIfInBounds (o + i) v) t fr)) (arr.setIfInBounds (o + i) v) (by rw [World.upd_get _ _ _ hlt]; simp) (by simpa using hf) (by simp; omega)
   (fun u hu => h1 u (by simp [hu]))
  refine ⟨arr', ?_, by simpa using e2, fun j => ?_⟩
  ·simp only [storeCells, Sem.run_bind]
   rw [hs, Result.andThen_ok, e1, World.upd_upd]
  ·rw [e3 j]
   by_cases c1 : o + (i + 1) ≤ j ∧ j < o + (i + 1) + vs.length
   ·have c2 : o + i ≤ j ∧ j < o + i + (v :: vs).length := by simp; omega
    rw [if_pos c1, if_pos c2]
    have : j - (o + i) = (j - (o + (i + 1))) + 1 := by omega
    rw [this, List.getElem?_cons_succ]
   ·rw [if_neg c1]
    by_cases c3 : j = o + i
    ·subst c3
     have c2 : o + i ≤ o + i ∧ o + i < o + i + (v :: vs).length := by simp
     rw [if_pos c2]
     simp [show o + i < arr.size by omega]
    ·have c2 : ¬ (o + i ≤ j ∧ j < o + i + (v :: vs).length) := by simp only [List.length_cons]; omega
     rw [if_neg c2, Array.getElem?_setIfInBounds]
     simp [show o + i ≠ j by omega]
theorem setAll_size : ∀ (vs : List AVal) (c : Cont) (off : Nat), (setAll c off vs).size = c.size
 | [], _, _ => rfl
 | v :: vs, c, off => by
  simp only [setAll]
  rw [setAll_size vs]
  cases c <;> simp [Cont.set, Cont.size, put_length]
theorem Cont.set_at (c : Cont) (i : Nat) (v : AVal) (j : Nat) (hi : i < c.size) : (c.set i v).at j = if j = i then v else c.at j := by
 cases c with
 | l xs =>
  simp only [Cont.size] at hi
  simp only [Cont.set, Cont.at, nth_get, put_get]
  by_cases e : j = i
  ·simp [e, hi]
  ·simp [e]
 | f n g =>
  simp only [Cont.set, Cont.at]
  by_cases e : j = i
  ·subst e; simp
  ·have : j.beq i = false := by
    cases hb : j.beq i with
    | false => rfl
    | true => exact absurd (Nat.eq_of_beq_eq_true hb) e
   simp [this, e]
theorem setAll_at : ∀ (vs : List AVal) (c : Cont) (off j : Nat), off + vs.length ≤ c.size → (setAll c off vs).at j = if off ≤ j ∧ j < off + vs.length then (vs[j - off]?).getD .junk else c.at j
 | [], c, off, j, _ => by
  have : ¬ (off ≤ j ∧ j < off + ([] : List AVal).length) := by simp only [List.length_nil]; omega
  rw [if_neg this]; rfl
 | v :: vs, c, off, j, h => by
  simp only [List.length_cons] at h
  simp only [setAll]
  rw [setAll_at vs (c.set off v) (off + 1) j (by cases c <;> simp_all [Cont.set, Cont.size, put_length] <;> omega)]
  rw [Cont.set_at _ _ _ _ (by omega)]
  by_cases c1 : off + 1 ≤ j ∧ j < off + 1 + vs.length
  ·have c2 : off ≤ j ∧ j < off + (v :: vs).length := by simp; omega
   rw [if_pos c1, if_pos c2]
   have : j - off = (j - (off + 1)) + 1 := by omega
   rw [this, List.getElem?_cons_succ]
  ·rw [if_neg c1]
   by_cases c3 : j = off
   ·subst c3
    have c2 : j ≤ j ∧ j < j + (v :: vs).length := by simp
    rw [if_pos c2]
    simp
   ·have c2 : ¬ (off ≤ j ∧ j < off + (v :: vs).length) := by simp only [List.length_cons]; omega
    rw [if_neg c2, if_neg c3]
theorem R.oneCell {ρ : Ren} {m : Mem} {v : AVal} {x : Value} (h : R ρ m v x) (h1 : oneCell v = true) : x.oneCell' = true := by
 cases h <;> first | rfl | simp [Am.oneCell] at h1
theorem writeCells_sim {P : Program} {v : AVal} {vs : List AVal} {u : Unit} {s s' : St} (h : (writeCells v vs).run s = .ok u s') (ho : OkObs s') {ρ : Ren} {m : Mem} {w : World}
  (hr : Rel P ρ m s.heap.get w) {x : Value} (hx : R ρ m v x) {xs : List Value} (hl : vs.length = xs.length) (hxs : ∀ (i : Nat) a b, vs[i]? = some a → xs[i]? = some b → R ρ m a b) :
  ∃ a w', x = .pointer (some a) ∧ (storeCells a xs).run P w = .ok () w' ∧ Post P ρ m s w ρ m s' w' := by
 unfold writeCells at h
 split at h
 ·rename_i id off
  obtain ⟨b, s1, h1, h2, ho1, _, _⟩ := M.bind_did h ho
  obtain ⟨hg, e1⟩ := get_ok h1
  obtain ⟨c, t, rfl, h3⟩ := row_ok h2
  obtain ⟨_, s2, h4, h5, ho2, _, _⟩ := M.bind_did h3 ho
  obtain ⟨hb, e2⟩ := ob_ok h4 ho2
  cases hall : vs.all oneCell with
  | false => rw [hall] at h5; exact (fail_ok h5).elim
  | true =>
   rw [hall] at h5
   obtain ⟨_, hn, hset⟩ := set_ok h5
   have es := e1.trans e2
   cases hx with
   | ptr id off r hρ =>
    obtain ⟨arr, fr, ha, hs, hn', hc, hrr, hf, hm⟩ := hr.row hg hρ
    have hle : off + vs.length ≤ c.size := by simpa using hb
    have hone : ∀ y ∈ xs, y.oneCell' = true := by
     intro y hy
     obtain ⟨i, hi⟩ := List.getElem?_of_mem hy
     have hlt := (List.getElem?_eq_some_iff.1 hi).1
     have hv : vs[i]? = some vs[i] := List.getElem?_eq_getElem (by omega)
     exact (hxs i _ _ hv hi).oneCell (List.all_eq_true.1 hall _ (List.getElem_mem _))
    obtain ⟨arr', g1, g2, g3⟩ := run_storeCells P r.b off t fr xs 0 w arr ha hf.out (by omega) hone
    refine ⟨_, _, rfl, g1, ⟨.refl ρ, fun _ h => .inl h, fun _ _ h => h, ?_, World.upd_fr _ _ _, by rw [hn, es.next]; exact Nat.le_refl _⟩⟩
    refine hr.upd hg hρ (.row r (setAll c off vs) t arr' fr hs (by omega) (by rw [setAll_size]; omega) ?_ (by rw [g2]; exact hf)) (fun j => by rw [hset j, es.heap])
    intro j y hj hy
    rw [setAll_size] at hj
    rw [g3 j] at hy
    rw [setAll_at vs c off j hle]
    by_cases c1 : off ≤ j ∧ j < off + vs.length
    ·have c2 : off + 0 ≤ j ∧ j < off + 0 + xs.length := by omega
     rw [if_pos c2] at hy
     rw [if_pos c1]
     have hv : vs[j - off]? = some vs[j - off] := List.getElem?_eq_getElem (by omega)
     rw [hv]
     exact hxs (j - off) _ _ hv (by simpa using hy)
    ·have c2 : ¬ (off + 0 ≤ j ∧ j < off + 0 + xs.length) := by omega
     rw [if_neg c2] at hy
     rw [if_neg c1]
     exact hrr j y hj hy
 ·exact (fail_ok h).elim
theorem newRow_sim {P : Program} {c : Cont} {t : TypeId} {id : Nat} {s s' : St} (h : (newB (.row c t)).run s = .ok id s') {ρ : Ren} {m : Mem} {w : World}
  (hr : Rel P ρ m s.heap.get w) (hf : Fresh ρ s s') {i : TI} (ht : TOk P t i) {arr : Array Value} (hc : c.size ≤ arr.size) (hrr : ∀ j x, j < c.size → arr[j]? = some x → R ρ m (c.at j) x) :
  id = s.next ∧ Post P ρ m s w (ρ.put id ⟨w.heap.size, arr.size, i.size⟩) m s' (w.alloc (.cells arr t)) := by
 obtain ⟨h1, h2, h3⟩ := new_ok h
 have hρ : ρ id = none := hf id ⟨by omega, by omega⟩
 refine ⟨h1, ⟨RenLe.put hρ, fun j hj => ?_, fun _ _ h => h, ?_, .alloc _ _, by omega⟩⟩
 ·unfold Ren.put at hj
  by_cases e : j = id
  ·exact .inr ⟨by omega, by omega⟩
  ·simp only [e, if_false] at hj
   exact .inl hj
 ·exact hr.new hρ (.row _ c t arr (0, 0) ht.size_info rfl hc (fun j x hj hx => (hrr j x hj hx).mono (RenLe.put hρ) (.refl m)) (.inl rfl)) h3
end Go.Am
set_option linter.unusedSimpArgs false
set_option linter.unusedVariables false
namespace Go.Am
open Go
variable {E : Env}
def Out (P : Program) (ρ : Ren) (m : Mem) (s : St) (w : World) (s' : St) (v : AVal) (res : Result Value) : Prop :=
 ∃ x w' ρ', res = .ok x w' ∧ Post P ρ m s w ρ' m s' w' ∧ R ρ' m v x
theorem Post.of_same {P : Program} {ρ : Ren} {m : Mem} {s s' : St} {w : World} (h : Rel P ρ m s.heap.get w) (e : Same s s') : Post P ρ m s w ρ m s' w :=
 Post.same h (fun id => by rw [e.heap]) e.next
theorem Out.same {P : Program} {ρ : Ren} {m : Mem} {s s' : St} {w : World} {v : AVal} {x : Value} (h : Rel P ρ m s.heap.get w) (e : Same s s') (hx : R ρ m v x) : Out P ρ m s w s' v (.ok x w) :=
 ⟨x, w, ρ, rfl, .of_same h e, hx⟩
section
variable {ρ : Ren} {m : Mem} {s s' : St} {w : World} {v : AVal}
theorem run_loadCells' {P : Program} {w : World} {a : Addr} {n : Nat} {xs : List Value} (h : ∀ j y, xs[j]? = some y → w.cell? (a.add j) = some y) (hl : xs.length = n) : (loadCells a n).run P w = .ok xs.toArray w := by
 subst hl
 exact run_loadCells_list w a xs h
theorem load_at {t : TypeId} {a : AVal} (h : (load E t a).run s = .ok v s') (ho : OkObs s') (hr : Rel E.P ρ m s.heap.get w) {x : Value} (hx : R ρ m a x) :
  ∃ ad y, x = .pointer (some ad) ∧ (loadVar t ad).run E.P w = .ok y w ∧ R ρ m v y ∧ Same s s' := by
 obtain ⟨i, s1, h1, h2⟩ := M.bind_ok h
 obtain ⟨hi, rfl⟩ := ti_ok h1
 have e1 := hi.run_isAgg (w := w)
 have e2 := hi.run_size (w := w)
 cases hb : aggB i.desc with
 | true =>
  rw [hb] at h2 e1
  obtain ⟨cs, s2, h3, h4, ho2, _, _⟩ := M.bind_did h2 ho
  obtain ⟨rfl, rfl⟩ := pure_ok h4
  obtain ⟨ad, xs, rfl, k1, k2, k3, k4, k5⟩ := readCells_sim h3 ho2 hr hx
  refine ⟨ad, _, rfl, ?_, .agg _ _ k3.len k3.at_, k5⟩
  simp only [loadVar, Sem.run_bind, Sem.run_pure, Result.andThen_ok, e1, e2, if_true, run_loadCells' k1 k2]
 | false =>
  rw [hb] at h2 e1
  obtain ⟨cs, s2, h3, h4, ho2, _, _⟩ := M.bind_did h2 ho
  have : ∃ c, cs = [c] ∧ v = c ∧ s' = s2 := by
   unfold oneOf at h4
   split at h4
   ·obtain ⟨rfl, rfl⟩ := pure_ok h4; exact ⟨_, rfl, rfl, rfl⟩
   ·exact (fail_ok h4).elim
  obtain ⟨c, rfl, rfl, rfl⟩ := this
  obtain ⟨ad, xs, rfl, k1, k2, k3, k4, k5⟩ := readCells_sim h3 ho2 hr hx
  obtain ⟨y, rfl⟩ : ∃ y, xs = [y] := by
   cases xs with
   | nil => cases k2
   | cons y l => cases l with
    | nil => exact ⟨y, rfl⟩
    | cons z l => simp at k2
  have hy := k1 0 y rfl
  have ha : ad.add 0 = ad := by simp [Addr.add]
  rw [ha] at hy
  refine ⟨ad, y, rfl, ?_, k3.at_ 0 _ _ rfl rfl, k5⟩
  simp only [loadVar, Sem.run_bind, Sem.run_pure, Result.andThen_ok, e1, Bool.false_eq_true, if_false, run_load, hy]
theorem load_sim {t : TypeId} {a : AVal} (h : (load E t a).run s = .ok v s') (ho : OkObs s') (hr : Rel E.P ρ m s.heap.get w) {x : Value} (hx : R ρ m a x) :
  Out E.P ρ m s w s' v ((Instr.loadAt t x).run E.P w) := by
 obtain ⟨ad, y, rfl, h1, h2, h3⟩ := load_at h ho hr hx
 simp only [Instr.loadAt, Instr.sureAddr, Sem.run_bind, Sem.run_pure, Result.andThen_ok, h1]
 exact .same hr h3 h2
theorem store_sim {t : TypeId} {a v : AVal} {u : Unit} (h : (store E t a v).run s = .ok u s') (ho : OkObs s') (hr : Rel E.P ρ m s.heap.get w) {x y : Value} (hx : R ρ m a x) (hy : R ρ m v y) :
  ∃ w', (Instr.storeAt t x y).run E.P w = .ok () w' ∧ Post E.P ρ m s w ρ m s' w' := by
 obtain ⟨i, s1, h1, h2⟩ := M.bind_ok h
 obtain ⟨hi, rfl⟩ := ti_ok h1
 have e2 := hi.run_size (w := w)
 cases hb : v.cells.length.beq i.size with
 | false => rw [hb] at h2; exact (fail_ok h2).elim
 | true =>
  rw [hb] at h2
  have hn := Nat.eq_of_beq_eq_true hb
  have hj : v ≠ .junk := by
   rintro rfl
   simp only [AVal.cells] at h2
   unfold writeCells at h2
   split at h2
   ·obtain ⟨b, s1, k1, k2, ho1, _, _⟩ := M.bind_did h2 ho
    obtain ⟨c, t, rfl, k3⟩ := row_ok k2
    obtain ⟨_, s2, k4, k5, ho2, _, _⟩ := M.bind_did k3 ho
    exact (fail_ok k5).elim
   ·exact (fail_ok h2).elim
  have hc := hy.cells hj
  obtain ⟨ad, w', rfl, k1, k2⟩ := writeCells_sim h2 ho hr hx (xs := y.cells.toList) (by simpa using hc.len) (fun i p q hp hq => hc.at_ i p q hp (by simpa using hq))
  refine ⟨w', ?_, k2⟩
  have hsz : y.cells.size = i.size := by rw [← hc.len]; exact hn
  simp only [Instr.storeAt, Instr.sureAddr, storeVar, Sem.run_bind, Sem.run_pure, Result.andThen_ok, e2, hsz, ne_eq, not_true_eq_false, if_false, k1]
theorem newVar_sim {t : TypeId} {v v' : AVal} (h : (alloc E t v).run s = .ok v' s') (ho : OkObs s') (hr : Rel E.P ρ m s.heap.get w) (hf : Fresh ρ s s') {y : Value} (hy : R ρ m v y) :
  ∃ a w' ρ', (newVar t y).run E.P w = .ok a w' ∧ Post E.P ρ m s w ρ' m s' w' ∧ R ρ' m v' (.pointer (some a)) := by
 unfold alloc at h
 split at h
 ·exact (fail_ok h).elim
 rename_i hjb
 have hj : v ≠ .junk := by rintro rfl; cases hjb
 obtain ⟨id, s1, h1, h2⟩ := M.bind_ok h
 obtain ⟨rfl, rfl⟩ := pure_ok h2
 obtain ⟨i, s2, h3, h4⟩ := M.bind_ok h1
 obtain ⟨hi, rfl⟩ := ti_ok h3
 have hc := hy.cells hj
 obtain ⟨e, hp⟩ := newRow_sim h4 hr hf hi (arr := y.cells) (by simp [Cont.size, hc.len]) (fun j z hjz hz => by
  simp only [Cont.size] at hjz
  simp only [Cont.at, nth_get, List.getElem?_eq_getElem hjz, Option.getD_some]
  exact hc.at_ j _ z (List.getElem?_eq_getElem hjz) hz)
 refine ⟨⟨w.heap.size, 0, none⟩, _, _, ?_, hp, .ptr id 0 ⟨w.heap.size, y.cells.size, i.size⟩ (by simp [Ren.put])⟩
 simp only [newVar, Go.newRow, Sem.run_bind, run_newObj_alloc, Result.andThen_ok, Sem.run_pure]
end
end Go.Am
set_option linter.unusedSimpArgs false
set_option linter.unusedVariables false
namespace Go.Am
open Go
variable {E : Env}
section
variable {ρ : Ren} {m : Mem} {s s' : St} {w : World} {v : AVal}
theorem foldl_set_size (off : Nat) : ∀ (l : List (Value × Nat)) (cs : Array Value), (l.foldl (fun cs (c, j) => cs.setIfInBounds (off + j) c) cs).size = cs.size
 | [], _ => rfl
 | p :: l, cs => by simp [List.foldl_cons, foldl_set_size off l]
theorem foldl_set_get (off : Nat) : ∀ (l : List Value) (k : Nat) (cs : Array Value) (i : Nat), off + k + l.length ≤ cs.size →
  ((l.zipIdx k).foldl (fun cs (c, j) => cs.setIfInBounds (off + j) c) cs)[i]? = if off + k ≤ i ∧ i < off + k + l.length then l[i - (off + k)]? else cs[i]?
 | [], k, cs, i, _ => by
  have : ¬ (off + k ≤ i ∧ i < off + k + ([] : List Value).length) := by simp only [List.length_nil]; omega
  rw [if_neg this]; rfl
 | c :: l, k, cs, i, h => by
  simp only [List.length_cons] at h
  simp only [List.zipIdx_cons, List.foldl_cons]
  rw [foldl_set_get off l (k + 1) _ i (by simp; omega)]
  by_cases c1 : off + (k + 1) ≤ i ∧ i < off + (k + 1) + l.length
  ·have c2 : off + k ≤ i ∧ i < off + k + (c :: l).length := by simp only [List.length_cons]; omega
   rw [if_pos c1, if_pos c2]
   have : i - (off + k) = (i - (off + (k + 1))) + 1 := by omega
   rw [this, List.getElem?_cons_succ]
  ·rw [if_neg c1]
   by_cases c3 : i = off + k
   ·subst c3
    have c2 : off + k ≤ off + k ∧ off + k < off + k + (c :: l).length := by simp
    rw [if_pos c2]
    simp [show off + k < cs.size by omega]
   ·have c2 : ¬ (off + k ≤ i ∧ i < off + k + (c :: l).length) := by simp only [List.length_cons]; omega
    rw [if_neg c2, Array.getElem?_setIfInBounds]
    simp [show off + k ≠ i by omega]
inductive RP (ρ : Ren) (m : Mem) : List (Nat × AVal) → List (Nat × Value) → Prop
 | nil : RP ρ m [] []
 | cons (i : Nat) (v : AVal) (x : Value) (l : List (Nat × AVal)) (l' : List (Nat × Value)) (h : R ρ m v x) (hl : RP ρ m l l') : RP ρ m ((i, v) :: l) ((i, x) :: l')
theorem splice_length {cs vs : List AVal} {off : Nat} (h : off + vs.length ≤ cs.length) : (cs.take off ++ vs ++ cs.drop (off + vs.length)).length = cs.length := by
 simp only [List.length_append, List.length_take, List.length_drop]; omega
theorem splice_get {cs vs : List AVal} {off : Nat} (h : off + vs.length ≤ cs.length) (i : Nat) :
  (cs.take off ++ vs ++ cs.drop (off + vs.length))[i]? = if off ≤ i ∧ i < off + vs.length then vs[i - off]? else cs[i]? := by
 by_cases c1 : i < off
 ·have c2 : ¬ (off ≤ i ∧ i < off + vs.length) := by omega
  rw [if_neg c2, List.append_assoc, List.getElem?_append_left (by simp; omega), List.getElem?_take_of_lt c1]
 ·by_cases c3 : i < off + vs.length
  ·rw [if_pos ⟨by omega, c3⟩, List.getElem?_append_left (by simp; omega), List.getElem?_append_right (by simp; omega)]
   congr 1; simp; omega
  ·have c2 : ¬ (off ≤ i ∧ i < off + vs.length) := by omega
   rw [if_neg c2, List.getElem?_append_right (by simp; omega), List.getElem?_drop]
   congr 1; simp; omega
theorem fill_sim {place : Nat → Option (Nat × Nat)} : ∀ (parts : List (Nat × AVal)) (parts' : List (Nat × Value)) (cs : List AVal) (xs : Array Value) (out : List AVal), RP ρ m parts parts' → RL ρ m cs xs →
  fill place cs parts = some out → ∃ out', Instr.fill place xs parts' = some out' ∧ RL ρ m out out'
 | [], _, cs, xs, out, hp, hc, h => by
  cases hp
  simp only [fill, Option.some.injEq] at h
  subst h
  exact ⟨xs, rfl, hc⟩
 | (i, v) :: parts, _, cs, xs, out, hp, hc, h => by
  cases hp with
  | cons _ _ x _ l' hv hl =>
   simp only [fill] at h
   cases hpl : place i with
   | none => rw [hpl] at h; cases h
   | some q =>
    obtain ⟨off, size⟩ := q
    rw [hpl] at h
    simp only at h
    split at h
    ·rename_i hcond
     simp only [Bool.and_eq_true] at hcond
     have hsz := Nat.eq_of_beq_eq_true hcond.1.2
     have hle := Nat.le_of_ble_eq_true hcond.2
     have hvc := hv.cells (by rintro rfl; simp [isJunk] at hcond)
     have hlen : x.cells.size = v.cells.length := hvc.len.symm
     have hcl : xs.size = cs.length := hc.len.symm
     simp only [Instr.fill, hpl]
     have e1 : ¬ (x.cells.size ≠ size ∨ off + x.cells.size > xs.size) := by omega
     have e1' : (x.cells.size ≠ size || decide (off + x.cells.size > xs.size)) = false := by
      simp only [Bool.or_eq_false_iff, decide_eq_false_iff_not, ne_eq]
      omega
     simp only [e1', Bool.false_eq_true, if_false]
     refine fill_sim parts l' _ _ out hl ⟨?_, ?_⟩ h
     ·rw [splice_length hle]
      simp only [← Array.foldl_toList, Array.toList_zipIdx, foldl_set_size, hcl]
     ·intro k a b ha hb
      rw [splice_get hle] at ha
      simp only [← Array.foldl_toList, Array.toList_zipIdx] at hb
      rw [foldl_set_get off x.cells.toList 0 xs k (by simp; omega)] at hb
      by_cases c1 : off ≤ k ∧ k < off + v.cells.length
      ·rw [if_pos c1] at ha
       have c2 : off + 0 ≤ k ∧ k < off + 0 + x.cells.toList.length := by simp; omega
       rw [if_pos c2] at hb
       exact hvc.at_ (k - off) a b ha (by simpa using hb)
      ·rw [if_neg c1] at ha
       have c2 : ¬ (off + 0 ≤ k ∧ k < off + 0 + x.cells.toList.length) := by simp; omega
       rw [if_neg c2] at hb
       exact hc.at_ k a b ha hb
    ·cases h
theorem sizesOf_ok : ∀ (fs : List Field) {ps : List (Nat × Nat)} {s s' : St}, (sizesOf E fs).run s = .ok ps s' → s' = s ∧ ∀ w, ((fs.toArray.mapM fun f => do pure (f.offset, ← Go.sizeOf f.type) : Sem (Array (Nat × Nat))).run E.P w) = .ok ps.toArray w := by
 intro fs
 suffices H : ∀ (fs : List Field) {ps : List (Nat × Nat)} {s s' : St}, (sizesOf E fs).run s = .ok ps s' → s' = s ∧ ∀ w, ((fs.mapM fun f => do pure (f.offset, ← Go.sizeOf f.type) : Sem (List (Nat × Nat))).run E.P w) = .ok ps w by
  intro ps s s' h
  obtain ⟨h1, h2⟩ := H fs h
  refine ⟨h1, fun w => ?_⟩
  rw [List.mapM_toArray]
  simp only [Sem.run_map, h2 w, Result.andThen_ok]
 intro fs
 induction fs with
 | nil =>
  intro ps s s' h
  obtain ⟨rfl, rfl⟩ := pure_ok h
  exact ⟨rfl, fun w => rfl⟩
 | cons f fs ih =>
  intro ps s s' h
  obtain ⟨n, s1, h1, h2⟩ := M.bind_ok h
  obtain ⟨⟨i, hi, rfl⟩, rfl⟩ := sizeOf_ok h1
  obtain ⟨r, s2, h3, h4⟩ := M.bind_ok h2
  obtain ⟨rfl, rfl⟩ := pure_ok h4
  obtain ⟨rfl, h5⟩ := ih h3
  refine ⟨rfl, fun w => ?_⟩
  simp only [List.mapM_cons, Sem.run_bind, hi.run_size, Result.andThen_ok, Sem.run_pure, h5 w]
end
end Go.Am
set_option linter.unusedSimpArgs false
set_option linter.unusedVariables false
namespace Go.Am
open Go
variable {E : Env}
section
variable {ρ : Ren} {m : Mem} {s s' : St} {w : World} {v : AVal}
theorem R.agg_inv {l : List AVal} {x : Value} (h : R ρ m (.agg l) x) : ∃ c, x = .agg c ∧ RL ρ m l c := by
 cases h with
 | agg l c hl hr => exact ⟨c, rfl, hl, hr⟩
theorem R.int_inv {k : IntKind} {n : Int} {x : Value} (h : R ρ m (.int k n) x) : x = .int k n := by cases h; rfl
theorem R.str_inv {l : List UInt8} {x : Value} (h : R ρ m (.str l) x) : x = .string ⟨⟨l⟩⟩ := by cases h; rfl
theorem R.bool_inv {b : Bool} {x : Value} (h : R ρ m (.bool b) x) : x = .bool b := by cases h; rfl
theorem R.blit_inv {b : Bool} {x : Value} (h : R ρ m (.blit b) x) : x = .bool b := by cases h; rfl
theorem TOk.zcells {P : Program} {t : TypeId} {i : TI} (hi : TOk P t i) {z : Value} (h : ofValue z = i.zero) : RL ρ m i.zero.cells z.cells :=
 R.cells (by rw [← h]; exact ofValue_junk z) (fun e => by have := hi.zj; rw [e] at this; cases this)
theorem build_sim {t : TypeId} {parts : List (Nat × AVal)} {parts' : List (Nat × Value)} (h : (build E t parts).run s = .ok v s') (ho : OkObs s') (hr : Rel E.P ρ m s.heap.get w) (hp : RP ρ m parts parts') :
  Out E.P ρ m s w s' v ((Instr.build t parts'.toArray).run E.P w) := by
 obtain ⟨i, s1, h1, h2⟩ := M.bind_ok h
 obtain ⟨hi, rfl⟩ := ti_ok h1
 obtain ⟨z, hz, hzi⟩ := hi.run_zero (w := w)
 have hu := hi.run_und (w := w)
 have hzc := hi.zcells (ρ := ρ) (m := m) hzi
 cases hd : i.desc with
 | struct fs =>
  rw [hd] at h2 hu
  obtain ⟨ps, s2, h3, h4⟩ := M.bind_ok h2
  obtain ⟨rfl, h7⟩ := sizesOf_ok _ h3
  obtain ⟨cs, s3, h5, h6⟩ := M.bind_ok h4
  obtain ⟨h5g, rfl⟩ := getO_ok h5
  obtain ⟨rfl, rfl⟩ := pure_ok h6
  obtain ⟨out, k1, k2⟩ := fill_sim parts parts' _ _ cs hp hzc h5g
  have h8 := h7 w
  simp only [Instr.build, Sem.run_bind, hz, hu, Result.andThen_ok, h8, List.getElem?_toArray, k1, Sem.run_pure]
  exact .same hr (.refl _) (.agg _ _ k2.len k2.at_)
 | array n e =>
  rw [hd] at h2 hu
  obtain ⟨n, s2, h3, h4⟩ := M.bind_ok h2
  obtain ⟨⟨j, hj, rfl⟩, rfl⟩ := sizeOf_ok h3
  obtain ⟨cs, s3, h5, h6⟩ := M.bind_ok h4
  obtain ⟨h5g, rfl⟩ := getO_ok h5
  obtain ⟨rfl, rfl⟩ := pure_ok h6
  obtain ⟨out, k1, k2⟩ := fill_sim parts parts' _ _ cs hp hzc h5g
  simp only [Instr.build, Sem.run_bind, hz, hu, Result.andThen_ok, hj.run_size, k1, Sem.run_pure]
  exact .same hr (.refl _) (.agg _ _ k2.len k2.at_)
 | _ => rw [hd] at h2; exact (fail_ok h2).elim
theorem reps_length (z : List AVal) : ∀ n, (reps z n).length = n * z.length
 | 0 => by simp [reps]
 | n + 1 => by simp [reps, reps_length z n, Nat.succ_mul, Nat.add_comm]
theorem reps_get (z : List AVal) : ∀ (n i : Nat), i < n * z.length → (reps z n)[i]? = z[i % z.length]?
 | 0, i, h => by simp at h
 | n + 1, i, h => by
  simp only [reps]
  by_cases hi : i < z.length
  ·rw [List.getElem?_append_left hi, Nat.mod_eq_of_lt hi]
  ·have hz : z.length ≤ i := by omega
   rw [List.getElem?_append_right hz, reps_get z n (i - z.length) (by rw [Nat.succ_mul] at h; omega), ← Nat.mod_eq_sub_mod hz]
theorem reps_sim {zs : List AVal} {zx : Array Value} (hz : RL ρ m zs zx) (n : Nat) : RL ρ m (reps zs n) ((Array.range (n * zx.size)).map (zx[· % zx.size]!)) := by
 refine ⟨by simp [reps_length, hz.len], fun i a b ha hb => ?_⟩
 have hi : i < n * zs.length := by
  have := (List.getElem?_eq_some_iff.1 ha).1
  rwa [reps_length] at this
 rw [reps_get _ _ _ hi] at ha
 have hpos : 0 < zs.length := by
  rcases Nat.eq_zero_or_pos zs.length with h0 | h0
  ·rw [h0] at hi; omega
  ·exact h0
 have hb' : b = zx[i % zx.size]! := by
  have hi' : i < n * zx.size := by rw [← hz.len]; exact hi
  simp only [Array.getElem?_map, Array.getElem?_range, hi', if_true, Option.map_some, Option.some.injEq] at hb
  exact hb.symm
 have hlt : i % zx.size < zx.size := Nat.mod_lt _ (by rw [← hz.len]; exact hpos)
 have e : zx[i % zx.size]? = some b := by
  rw [hb', Array.getElem?_eq_getElem hlt, getElem!_pos zx _ hlt]
 rw [hz.len] at ha
 exact hz.at_ _ a b ha e
theorem newBlock_sim {t : TypeId} {cs : List AVal} {id : Nat} (h : (newRow E t cs).run s = .ok id s') (hr : Rel E.P ρ m s.heap.get w) (hf : Fresh ρ s s') {arr : Array Value} (hc : RL ρ m cs arr) :
  ∃ i, TOk E.P t i ∧ Post E.P ρ m s w (ρ.put id ⟨w.heap.size, arr.size, i.size⟩) m s' (w.alloc (.cells arr t)) := by
 obtain ⟨i, s1, h1, h2⟩ := M.bind_ok h
 obtain ⟨hi, rfl⟩ := ti_ok h1
 obtain ⟨_, hp⟩ := newRow_sim h2 hr hf hi (arr := arr) (by simp [Cont.size, hc.len]) (fun j z hjz hz => by
  simp only [Cont.size] at hjz
  simp only [Cont.at, nth_get, List.getElem?_eq_getElem hjz, Option.getD_some]
  exact hc.at_ j _ z (List.getElem?_eq_getElem hjz) hz)
 exact ⟨i, hi, hp⟩
theorem run_newRow (P : Program) (w : World) (t : TypeId) (arr : Array Value) : (Go.newRow t arr).run P w = .ok ⟨w.heap.size, 0, none⟩ (w.alloc (.cells arr t)) := by
 simp only [Go.newRow, Sem.run_bind, run_newObj_alloc, Result.andThen_ok, Sem.run_pure]
theorem buildSlice_sim {t : TypeId} {len : Nat} {parts : List (Nat × AVal)} {parts' : List (Nat × Value)} (h : (buildSlice E t len parts).run s = .ok v s') (ho : OkObs s') (hr : Rel E.P ρ m s.heap.get w) (hf : Fresh ρ s s')
  (hp : RP ρ m parts parts') : Out E.P ρ m s w s' v ((Instr.buildSlice t len parts'.toArray).run E.P w) := by
 obtain ⟨d, s1, h1, h2⟩ := M.bind_ok h
 obtain ⟨⟨i, hi, rfl⟩, rfl⟩ := und_ok h1
 have hu := hi.run_und (w := w)
 cases hd : i.desc with
 | slice e =>
  rw [hd] at h2 hu
  obtain ⟨j, s2, h3, h4⟩ := M.bind_ok h2
  obtain ⟨hj, rfl⟩ := ti_ok h3
  cases hb : (len * j.size).ble 16777216 with
  | false => rw [hb] at h4; exact (fail_ok h4).elim
  | true =>
   rw [hb] at h4
   have hle := Nat.le_of_ble_eq_true hb
   obtain ⟨cs, s3, h5, h6⟩ := M.bind_ok h4
   obtain ⟨h5g, rfl⟩ := getO_ok h5
   obtain ⟨id, s4, h7, h8⟩ := M.bind_ok h6
   obtain ⟨rfl, rfl⟩ := pure_ok h8
   obtain ⟨z, hz, hzi⟩ := hj.run_zero (w := w)
   have hzc := hj.zcells (ρ := ρ) (m := m) hzi
   have hzs : z.cells.size = j.size := by rw [← hzc.len, hj.zsize]
   have hle' : ¬ (len * j.size > 2 ^ 24) := by omega
   have hreps := reps_sim hzc len
   rw [hzs] at hreps
   obtain ⟨out, k1, k2⟩ := fill_sim parts parts' _ _ cs hp hreps h5g
   obtain ⟨j', hj', hp'⟩ := newBlock_sim h7 hr hf k2
   have ej : j'.size = j.size := by
    have := hj'.size_info
    rw [hj.size_info] at this
    injection this with this
    exact this.symm
   refine ⟨_, _, _, ?_, hp', .slx id 0 len len j.size ⟨w.heap.size, out.size, j'.size⟩ (by simp [Ren.put]) (Nat.le_refl _)⟩
   simp only [Instr.buildSlice, Sem.run_bind, hu, hj.run_size, Result.andThen_ok, hle', if_false]
   by_cases h0 : len * j.size = 0
   ·have harr : ((Array.range (len * j.size)).map ((#[] : Array Value)[· % (#[] : Array Value).size]!)) = ((Array.range (len * j.size)).map (z.cells[· % j.size]!)) := by rw [h0]; simp
    rw [if_pos h0]
    simp only [Sem.run_bind, Result.andThen_ok, Sem.run_pure]
    rw [harr]
    simp only [k1, run_newRow, Sem.run_bind, Result.andThen_ok, Sem.run_pure]
   ·rw [if_neg h0]
    simp only [Sem.run_bind, Result.andThen_ok, Sem.run_pure, hz, hzs, k1, run_newRow]
 | _ => rw [hd] at h2; exact (fail_ok h2).elim
theorem moved_sim {n : Nat} {a : AVal} (h : (moved n a).run s = .ok v s') {x : Value} (hx : R ρ m a x) : s' = s ∧ ∃ ad, x = .pointer (some ad) ∧ ad.spot = none ∧ R ρ m v (.pointer (some ⟨ad.block, ad.off + n, none⟩)) := by
 unfold moved at h
 split at h
 ·obtain ⟨rfl, rfl⟩ := pure_ok h
  cases hx with
  | ptr id off r hρ => exact ⟨rfl, _, rfl, rfl, .ptr _ _ r hρ⟩
 ·rename_i f k off
  obtain ⟨rfl, rfl⟩ := pure_ok h
  cases hx with
  | ip _ _ _ b o g' hg hrr =>
   refine ⟨rfl, _, rfl, rfl, ?_⟩
   have := R.ip (ρ := ρ) (m := m) f k (off + n) b o g' hg hrr
   rw [← Nat.add_assoc] at this
   exact this
 ·exact (fail_ok h).elim
theorem add_none {a : Addr} (h : a.spot = none) (n : Nat) : a.add n = ⟨a.block, a.off + n, none⟩ := by
 obtain ⟨b, o, sp⟩ := a
 simp only at h
 subst h
 exact add_plain b o n
theorem fieldAddr_sim {t : TypeId} {a : AVal} {i : Nat} (h : (fieldAddr E t a i).run s = .ok v s') (hr : Rel E.P ρ m s.heap.get w) {x : Value} (hx : R ρ m a x) :
  Out E.P ρ m s w s' v ((Instr.fieldAt t x i).run E.P w) := by
 obtain ⟨d, s1, h1, h2⟩ := M.bind_ok h
 obtain ⟨⟨i0, hi, rfl⟩, rfl⟩ := und_ok h1
 have hu := hi.run_und (w := w)
 cases hd : i0.desc with
 | struct fs =>
  rw [hd] at h2 hu
  obtain ⟨f, s2, h3, h4⟩ := M.bind_ok h2
  obtain ⟨h3g, rfl⟩ := getO_ok h3
  obtain ⟨n, s3, h5, h6⟩ := M.bind_ok h4
  obtain ⟨⟨j, hj, rfl⟩, rfl⟩ := sizeOf_ok h5
  cases hb : j.size.beq 0 with
  | true => rw [hb] at h6; exact (fail_ok h6).elim
  | false =>
   rw [hb] at h6
   have hne : ¬ j.size = 0 := fun e => by rw [e] at hb; cases hb
   obtain ⟨rfl, ad, rfl, hsp, hv⟩ := moved_sim h6 hx
   have hf : fs[i]? = some f := by simpa using h3g
   simp only [Instr.fieldAt, Sem.run_bind, hu, Result.andThen_ok, hf, Instr.sureAddr, Sem.run_pure, fieldPlace, hj.run_size, hne, if_false, add_none hsp]
   exact .same hr (.refl _) hv
 | _ => rw [hd] at h2; exact (fail_ok h2).elim
theorem idx_ok {i : Int} {len j : Nat} (h : (idx i len).run s = .ok j s') (ho : OkObs s') : (0 ≤ i ∧ i < (len : Int)) ∧ j = i.toNat ∧ Same s s' := by
 obtain ⟨_, s1, h1, h2, ho1, _, _⟩ := M.bind_did h ho
 obtain ⟨rfl, rfl⟩ := pure_ok h2
 obtain ⟨h3, h4⟩ := ob_ok h1 ho1
 exact ⟨of_decide_eq_true h3, rfl, h4⟩
theorem slK_ok {α : Type} {k : Nat → Nat → Nat → Option Nat → Nat → M α} {k2 : (Nat → AVal) → Nat → Nat → Nat → M α} {v : AVal} {a : α} (h : (slK k k2 v).run s = .ok a s') :
  (∃ id off len cap sz, v = .sl id off len cap sz ∧ (k id off len cap sz).run s = .ok a s') ∨ (∃ g sz off len, v = .isl g sz off len ∧ (k2 g sz off len).run s = .ok a s') := by
 unfold slK at h
 split at h
 ·exact .inl ⟨_, _, _, _, _, rfl, h⟩
 ·exact .inr ⟨_, _, _, _, rfl, h⟩
 ·exact (fail_ok h).elim
theorem indexAddr_sim {t : TypeId} {a i : AVal} (h : (indexAddr E t a i).run s = .ok v s') (ho : OkObs s') (hr : Rel E.P ρ m s.heap.get w) {x y : Value} (hx : R ρ m a x) (hy : R ρ m i y) :
  Out E.P ρ m s w s' v ((Instr.indexAt t x y).run E.P w) := by
 obtain ⟨d, s1, h1, h2⟩ := M.bind_ok h
 obtain ⟨⟨i0, hi, rfl⟩, rfl⟩ := und_ok h1
 have hu := hi.run_und (w := w)
 obtain ⟨q, n, rfl, h3⟩ := int_ok h2
 obtain rfl := hy.int_inv
 cases hd : i0.desc with
 | array len e =>
  rw [hd] at h3 hu
  obtain ⟨k, s2, h4, h5⟩ := M.bind_ok h3
  obtain ⟨⟨j, hj, rfl⟩, rfl⟩ := sizeOf_ok h4
  obtain ⟨p, s3, h6, h7, ho3, _, _⟩ := M.bind_did h5 ho
  obtain ⟨hb, rfl, e1⟩ := idx_ok h6 ho3
  obtain ⟨rfl, ad, rfl, hsp, hv⟩ := moved_sim h7 hx
  have hb' : 0 ≤ n ∧ n < (len : Int) := hb
  simp only [Instr.indexAt, asIntOf, Sem.run_bind, hu, Result.andThen_ok, Instr.sureAddr, Sem.run_pure, hb', and_self, if_true, hj.run_size, add_none hsp]
  exact .same hr e1 hv
 | slice e =>
  rw [hd] at h3 hu
  obtain ⟨k, s2, h4, h5⟩ := M.bind_ok h3
  obtain ⟨⟨j, hj, rfl⟩, rfl⟩ := sizeOf_ok h4
  rcases slK_ok h5 with ⟨id, off, len, cap, sz, rfl, h6⟩ | ⟨g, sz, off, len, rfl, h6⟩
  ·cases hb : j.size.beq sz with
   | false => rw [hb] at h6; exact (fail_ok h6).elim
   | true =>
    rw [hb] at h6
    obtain ⟨p, s3, h7, h8, ho3, _, _⟩ := M.bind_did h6 ho
    obtain ⟨rfl, rfl⟩ := pure_ok h8
    obtain ⟨hb', rfl, e1⟩ := idx_ok h7 ho3
    cases hx with
    | slx _ _ _ c _ r hρ hl =>
     simp only [Instr.indexAt, asIntOf, Sem.run_bind, hu, Result.andThen_ok, Sem.run_pure, hb', and_self, if_true, hj.run_size, add_plain]
     exact .same hr e1 (.ptr _ _ r hρ)
    | slw _ _ _ c _ r hρ hl hs hc =>
     simp only [Instr.indexAt, asIntOf, Sem.run_bind, hu, Result.andThen_ok, Sem.run_pure, hb', and_self, if_true, hj.run_size, add_plain]
     exact .same hr e1 (.ptr _ _ r hρ)
    | sl0 => omega
  ·cases hb : j.size.beq sz with
   | false => rw [hb] at h6; exact (fail_ok h6).elim
   | true =>
    rw [hb] at h6
    have hz := Nat.eq_of_beq_eq_true hb
    obtain ⟨p, s3, h7, h8, ho3, _, _⟩ := M.bind_did h6 ho
    obtain ⟨rfl, rfl⟩ := pure_ok h8
    obtain ⟨hb', rfl, e1⟩ := idx_ok h7 ho3
    cases hx with
    | isl _ _ _ _ b o c g' hg hrr hl =>
     simp only [Instr.indexAt, asIntOf, Sem.run_bind, hu, Result.andThen_ok, Sem.run_pure, hb', and_self, if_true, hj.run_size, add_plain]
     refine .same hr e1 ?_
     have := R.ip (ρ := ρ) (m := m) g (off + len * sz) (off + n.toNat * j.size) b o g' hg hrr
     rw [← Nat.add_assoc] at this
     exact this
    | isl0 => omega
 | _ => rw [hd] at h3; exact (fail_ok h3).elim
theorem part_sim {t : TypeId} {cs : List AVal} {off : Nat} (h : (part E t cs off).run s = .ok v s') {xs : Array Value} (hx : RL ρ m cs xs) (w : World) :
  s' = s ∧ ∃ x, (Go.part t xs off).run E.P w = .ok x w ∧ R ρ m v x := by
 obtain ⟨i, s1, h1, h2⟩ := M.bind_ok h
 obtain ⟨hi, rfl⟩ := ti_ok h1
 have e1 := hi.run_isAgg (w := w)
 cases hb : aggB i.desc with
 | true =>
  rw [hb] at h2 e1
  obtain ⟨rfl, rfl⟩ := pure_ok h2
  refine ⟨rfl, .agg (xs.extract off (off + i.size)), by simp only [Go.part, Sem.run_bind, e1, Result.andThen_ok, if_true, hi.run_size, Sem.run_pure], .agg _ _ ?_ ?_⟩
  ·simp only [List.length_take, List.length_drop, Array.size_extract, hx.len]; omega
  ·intro k a b ha hb'
   have hk : k < i.size := by
    have := (List.getElem?_eq_some_iff.1 ha).1
    simp only [List.length_take] at this; omega
   rw [List.getElem?_take_of_lt hk, List.getElem?_drop] at ha
   rw [Array.getElem?_extract] at hb'
   split at hb'
   ·exact hx.at_ _ a b ha hb'
   ·cases hb'
 | false =>
  rw [hb] at h2 e1
  obtain ⟨h3, rfl⟩ := getO_ok h2
  have hlt := (List.getElem?_eq_some_iff.1 h3).1
  have hx' : xs[off]? = some (xs[off]'(by rw [← hx.len]; exact hlt)) := Array.getElem?_eq_getElem _
  refine ⟨rfl, _, by simp only [Go.part, Sem.run_bind, e1, Result.andThen_ok, Bool.false_eq_true, if_false, hx', Sem.run_pure], hx.at_ _ _ _ h3 hx'⟩
theorem field_sim {t : TypeId} {a : AVal} {i : Nat} (h : (field E t a i).run s = .ok v s') (hr : Rel E.P ρ m s.heap.get w) {x : Value} (hx : R ρ m a x) :
  Out E.P ρ m s w s' v ((Instr.field t x i).run E.P w) := by
 obtain ⟨d, s1, h1, h2⟩ := M.bind_ok h
 obtain ⟨⟨i0, hi, rfl⟩, rfl⟩ := und_ok h1
 have hu := hi.run_und (w := w)
 cases hd : i0.desc with
 | struct fs =>
  rw [hd] at h2 hu
  obtain ⟨l, rfl, h3⟩ := agg_ok h2
  obtain ⟨xs, rfl, hxs⟩ := hx.agg_inv
  obtain ⟨f, s2, h4, h5⟩ := M.bind_ok h3
  obtain ⟨h4g, rfl⟩ := getO_ok h4
  obtain ⟨rfl, y, h6, h7⟩ := part_sim h5 hxs w
  have hf : fs[i]? = some f := by simpa using h4g
  simp only [Instr.field, Sem.run_bind, hu, Result.andThen_ok, hf, asAgg, Sem.run_pure, h6]
  exact .same hr (.refl _) h7
 | _ => rw [hd] at h2; exact (fail_ok h2).elim
theorem index_sim {t : TypeId} {a i : AVal} (h : (index E t a i).run s = .ok v s') (ho : OkObs s') (hr : Rel E.P ρ m s.heap.get w) {x y : Value} (hx : R ρ m a x) (hy : R ρ m i y) :
  Out E.P ρ m s w s' v ((Instr.index t x y).run E.P w) := by
 obtain ⟨d, s1, h1, h2⟩ := M.bind_ok h
 obtain ⟨⟨i0, hi, rfl⟩, rfl⟩ := und_ok h1
 have hu := hi.run_und (w := w)
 obtain ⟨q, n, rfl, h3⟩ := int_ok h2
 obtain rfl := hy.int_inv
 cases hd : i0.desc with
 | array len e =>
  rw [hd] at h3 hu
  obtain ⟨l, rfl, h4⟩ := agg_ok h3
  obtain ⟨xs, rfl, hxs⟩ := hx.agg_inv
  obtain ⟨p, s3, h6, h7, ho3, _, _⟩ := M.bind_did h4 ho
  obtain ⟨hb, rfl, e1⟩ := idx_ok h6 ho3
  obtain ⟨k, s4, h8, h9⟩ := M.bind_ok h7
  obtain ⟨⟨j, hj, rfl⟩, rfl⟩ := sizeOf_ok h8
  obtain ⟨rfl, z, h10, h11⟩ := part_sim h9 hxs w
  simp only [Instr.index, asIntOf, Sem.run_bind, hu, Result.andThen_ok, Sem.run_pure, hb, and_self, if_true, hj.run_size, h10]
  exact .same hr e1 h11
 | string =>
  rw [hd] at h3 hu
  obtain ⟨l, rfl, h4⟩ := str_ok h3
  obtain rfl := hx.str_inv
  obtain ⟨p, s3, h6, h7, ho3, _, _⟩ := M.bind_did h4 ho
  obtain ⟨hb, rfl, e1⟩ := idx_ok h6 ho3
  obtain ⟨rfl, rfl⟩ := pure_ok h7
  have hlt : n.toNat < l.length := by omega
  have hget : (⟨⟨l⟩⟩ : ByteArray)[n.toNat]? = some l[n.toNat] := by
   have : n.toNat < (⟨⟨l⟩⟩ : ByteArray).size := hlt
   rw [getElem?_pos (⟨⟨l⟩⟩ : ByteArray) n.toNat this]
   rfl
  simp only [Instr.index, asIntOf, Sem.run_bind, hu, Result.andThen_ok, Sem.run_pure, hb.1, if_true, hget]
  refine .same hr e1 ?_
  have : byteAt l n.toNat = l[n.toNat] := by simp [byteAt, List.getD, List.getElem?_eq_getElem hlt]
  rw [this]
  exact .int _ _
 | _ => rw [hd] at h3; exact (fail_ok h3).elim
end
end Go.Am
set_option linter.unusedSimpArgs false
set_option linter.unusedVariables false
namespace Go.Am
open Go
variable {E : Env}
section
variable {ρ : Ren} {m : Mem} {s s' : St} {w : World} {v : AVal}
inductive RO (ρ : Ren) (m : Mem) : Option AVal → Option Value → Prop
 | none : RO ρ m none none
 | some (v : AVal) (x : Value) (h : R ρ m v x) : RO ρ m (some v) (some x)
theorem bound_ok {o : Option AVal} {d most n : Nat} (h : (bound o d most).run s = .ok n s') (ho : OkObs s') {x : Option Value} (hx : RO ρ m o x) :
  Same s s' ∧ ((o = none ∧ x = none ∧ n = d) ∨ ∃ k i, o = some (.int k i) ∧ x = some (.int k i) ∧ 0 ≤ i ∧ i ≤ (most : Int) ∧ n = i.toNat) := by
 unfold bound at h
 cases hx with
 | none =>
  obtain ⟨rfl, rfl⟩ := pure_ok h
  exact ⟨.refl _, .inl ⟨rfl, rfl, rfl⟩⟩
 | some v x hv =>
  obtain ⟨q, i, rfl, h2⟩ := int_ok h
  obtain rfl := hv.int_inv
  obtain ⟨_, s1, h3, h4, ho1, _, _⟩ := M.bind_did h2 ho
  obtain ⟨rfl, rfl⟩ := pure_ok h4
  obtain ⟨h5, h6⟩ := ob_ok h3 ho1
  have h5' := of_decide_eq_true h5
  exact ⟨h6, .inr ⟨q, i, rfl, rfl, h5'.1, h5'.2, rfl⟩⟩
theorem run_sliceBound {P : Program} {k : IntKind} {i : Int} {y : Nat} (c : BoundsCode) (h0 : 0 ≤ i) (h1 : i ≤ (y : Int)) : (Instr.sliceBound (.int k i) y c).run P w = .ok i.toNat w := by
 simp only [Instr.sliceBound, asIntOf, Sem.run_bind, Sem.run_pure, Result.andThen_ok, h0, h1, and_self, if_true]
theorem run_bounds2 {P : Program} {isSl : Bool} {len cap most : Nat} {lo hi : Option AVal} {lo' hi' : Option Value} {l h : Nat} {s1 s2 : St} (k1 : (bound hi len most).run s = .ok h s1) (k2 : (bound lo 0 h).run s1 = .ok l s2) (ho : OkObs s2)
  (hl : RO ρ m lo lo') (hh : RO ρ m hi hi') (hlen : len ≤ most) (hcap : most ≤ cap) :
  (Instr.sliceBounds isSl len cap lo' hi' none).run P w = .ok (l, h, cap) w ∧ l ≤ h ∧ h ≤ most ∧ Same s s2 := by
 obtain ⟨_, _, o, d⟩ := (bound lo 0 h).loc _ _ _ k2
 obtain ⟨e1, c1⟩ := bound_ok k1 (ho.of d.obs) hh
 obtain ⟨e2, c2⟩ := bound_ok k2 ho hl
 have hhm : h ≤ most := by
  rcases c1 with ⟨_, _, rfl⟩ | ⟨k, i, _, _, a, b, rfl⟩ <;> omega
 have hlh : l ≤ h := by
  rcases c2 with ⟨_, _, rfl⟩ | ⟨k, i, _, _, a, b, rfl⟩ <;> omega
 refine ⟨?_, hlh, hhm, e1.trans e2⟩
 rcases c1 with ⟨_, rfl, rfl⟩ | ⟨k, i, _, rfl, a, b, rfl⟩
 ·rcases c2 with ⟨_, rfl, rfl⟩ | ⟨k2, i2, _, rfl, a2, b2, rfl⟩
  ·rfl
  ·simp only [Instr.sliceBounds, Sem.run_bind, Sem.run_pure, Result.andThen_ok, run_sliceBound _ a2 b2, Option.isSome, Bool.false_eq_true, if_false]
 ·have b' : i ≤ (cap : Int) := by omega
  rcases c2 with ⟨_, rfl, rfl⟩ | ⟨k2, i2, _, rfl, a2, b2, rfl⟩
  ·simp only [Instr.sliceBounds, Sem.run_bind, Sem.run_pure, Result.andThen_ok, run_sliceBound _ a b']
  ·simp only [Instr.sliceBounds, Sem.run_bind, Sem.run_pure, Result.andThen_ok, run_sliceBound _ a b', run_sliceBound _ a2 b2, Option.isSome, Bool.false_eq_true, if_false]
theorem run_bounds3 {P : Program} {len cap most d : Nat} {lo hi mx : Option AVal} {lo' hi' mx' : Option Value} {l h q : Nat} {s1 s2 s3 : St} (k0 : (bound mx d most).run s = .ok q s1) (k1 : (bound hi len q).run s1 = .ok h s2) (k2 : (bound lo 0 h).run s2 = .ok l s3) (ho : OkObs s3)
  (hl : RO ρ m lo lo') (hh : RO ρ m hi hi') (hm : RO ρ m mx mx') (hi0 : hi ≠ none) (mx0 : mx ≠ none) (hcap : most ≤ cap) :
  (Instr.sliceBounds true len cap lo' hi' mx').run P w = .ok (l, h, q) w ∧ l ≤ h ∧ h ≤ q ∧ q ≤ most ∧ Same s s3 := by
 obtain ⟨_, _, o2, d2⟩ := (bound lo 0 h).loc _ _ _ k2
 obtain ⟨_, _, o1, d1⟩ := (bound hi len q).loc _ _ _ k1
 have ho2 := ho.of d2.obs
 obtain ⟨e0, c0⟩ := bound_ok k0 (ho2.of d1.obs) hm
 obtain ⟨e1, c1⟩ := bound_ok k1 ho2 hh
 obtain ⟨e2, c2⟩ := bound_ok k2 ho hl
 rcases c0 with ⟨x, _, _⟩ | ⟨k3, i3, _, rfl, a3, b3, rfl⟩
 ·exact absurd x mx0
 rcases c1 with ⟨x, _, _⟩ | ⟨k, i, _, rfl, a, b, rfl⟩
 ·exact absurd x hi0
 have b3' : i3 ≤ (cap : Int) := by omega
 have hlh : l ≤ i.toNat := by
  rcases c2 with ⟨_, _, rfl⟩ | ⟨k, i, _, _, a, b, rfl⟩ <;> omega
 have g1 : i.toNat ≤ i3.toNat := Int.toNat_le.mpr b
 have g2 : i3.toNat ≤ most := Int.toNat_le.mpr b3
 refine ⟨?_, hlh, g1, g2, (e0.trans e1).trans e2⟩
 rcases c2 with ⟨_, rfl, rfl⟩ | ⟨k2, i2, _, rfl, a2, b2, rfl⟩
 ·simp only [Instr.sliceBounds, Sem.run_bind, Sem.run_pure, Result.andThen_ok, run_sliceBound _ a3 b3', run_sliceBound _ a b, if_true]
 ·simp only [Instr.sliceBounds, Sem.run_bind, Sem.run_pure, Result.andThen_ok, run_sliceBound _ a3 b3', run_sliceBound _ a b, run_sliceBound _ a2 b2, Option.isSome, if_true]
theorem bind2 {α β γ : Type} {a : M α} {f : α → M β} {g : α → β → M γ} {c : γ} (h : (a.bind fun x => (f x).bind fun y => g x y).run s = .ok c s') (ho : OkObs s') :
  ∃ x y s1 s2, a.run s = .ok x s1 ∧ (f x).run s1 = .ok y s2 ∧ (g x y).run s2 = .ok c s' ∧ OkObs s2 := by
 obtain ⟨x, s1, h1, h2, ho1, _, _⟩ := M.bind_did h ho
 obtain ⟨y, s2, h3, h4, ho2, _, _⟩ := M.bind_did h2 ho
 exact ⟨x, y, s1, s2, h1, h3, h4, ho2⟩
theorem roomOf_ok {id off len n q : Nat} {hi : Option AVal} (h : (roomOf id off len n hi).run s = .ok q s') : Same s s' ∧ (q = len ∨ ∃ c t, s.heap.get id = some (.row c t) ∧ q = max len ((c.size - off) / n)) := by
 unfold roomOf at h
 split at h
 ·split at h
  ·obtain ⟨rfl, rfl⟩ := pure_ok h; exact ⟨.refl _, .inl rfl⟩
  ·obtain ⟨b, s1, h1, h2⟩ := M.bind_ok h
   obtain ⟨hg, e1⟩ := get_ok h1
   obtain ⟨c, t, rfl, h3⟩ := row_ok h2
   obtain ⟨rfl, rfl⟩ := pure_ok h3
   exact ⟨e1, .inr ⟨c, t, hg, rfl⟩⟩
 ·obtain ⟨rfl, rfl⟩ := pure_ok h; exact ⟨.refl _, .inl rfl⟩
theorem roomOf_le {P : Program} {w : World} {id off len n q : Nat} {r : RB} {cc : Nat} (hr : Rel P ρ m s.heap.get w) (hρ : ρ id = some r) (hlc : len ≤ cc) (hc : r.n ≤ off + cc * n) (hq : q = len ∨ ∃ c t, s.heap.get id = some (.row c t) ∧ q = max len ((c.size - off) / n)) : len ≤ q ∧ q ≤ cc := by
 rcases hq with rfl | ⟨c, t, hg, rfl⟩
 ·exact ⟨Nat.le_refl _, hlc⟩
 ·refine ⟨Nat.le_max_left _ _, Nat.max_le.2 ⟨hlc, ?_⟩⟩
  obtain ⟨rb, o, h1, h2, h3, h4⟩ := hr.live id _ hg
  rw [hρ] at h1
  injection h1 with h1
  subst h1
  cases h3 with
  | row _ _ arr fr hs hn hcs hrr hf =>
   have : c.size - off ≤ cc * n := by omega
   by_cases h0 : n = 0
   ·subst h0; simp
   ·exact Nat.div_le_of_le_mul (by rw [Nat.mul_comm]; exact this)
theorem bind3 {α β γ δ : Type} {a : M α} {f : α → M β} {g : α → β → M γ} {e : α → β → γ → M δ} {c : δ} (h : (a.bind fun x => (f x).bind fun y => (g x y).bind fun z => e x y z).run s = .ok c s') (ho : OkObs s') :
  ∃ x y z s1 s2 s3, a.run s = .ok x s1 ∧ (f x).run s1 = .ok y s2 ∧ (g x y).run s2 = .ok z s3 ∧ (e x y z).run s3 = .ok c s' ∧ OkObs s3 := by
 obtain ⟨x, s1, h1, h2, ho1, _, _⟩ := M.bind_did h ho
 obtain ⟨y, s2, h3, h4, ho2, _, _⟩ := M.bind_did h2 ho
 obtain ⟨z, s3, h5, h6, ho3, _, _⟩ := M.bind_did h4 ho
 exact ⟨x, y, z, s1, s2, s3, h1, h3, h5, h6, ho3⟩
theorem getE_take_drop (l : List UInt8) (h k : Nat) : (⟨⟨l⟩⟩ : ByteArray).extract k h = ⟨⟨(l.take h).drop k⟩⟩ := by
 have : ((⟨⟨l⟩⟩ : ByteArray).extract k h).data.toList = (l.take h).drop k := by
  rw [ByteArray.data_extract]
  simp [List.extract_eq_take_drop, List.drop_take]
 cases hh : (⟨⟨l⟩⟩ : ByteArray).extract k h with
 | mk d =>
  rw [hh] at this
  cases d with
  | mk t => simp only at this; rw [this]
theorem slice_sim {t : TypeId} {a : AVal} {lo hi mx : Option AVal} (h : (slice E t a lo hi mx).run s = .ok v s') (ho : OkObs s') (hr : Rel E.P ρ m s.heap.get w) {x : Value} {lo' hi' mx' : Option Value} (hx : R ρ m a x)
  (hl : RO ρ m lo lo') (hh : RO ρ m hi hi') (hm : RO ρ m mx mx') : Out E.P ρ m s w s' v ((Instr.sliceAt t x lo' hi' mx').run E.P w) := by
 obtain ⟨d, s1, h1, h2⟩ := M.bind_ok h
 obtain ⟨⟨i0, hi0, rfl⟩, rfl⟩ := und_ok h1
 have hu := hi0.run_und (w := w)
 cases hd : i0.desc with
 | string =>
  rw [hd] at h2 hu
  cases hm with
  | some _ _ _ => exact (fail_ok h2).elim
  | none =>
   obtain ⟨l, rfl, h3⟩ := str_ok h2
   obtain rfl := hx.str_inv
   obtain ⟨hq, lq, s2, s3, k1, k2, k3, ho3⟩ := bind2 h3 ho
   obtain ⟨rfl, rfl⟩ := pure_ok k3
   obtain ⟨b1, b2, b3, b4⟩ := run_bounds2 (P := E.P) (w := w) (isSl := false) (cap := l.length) k1 k2 ho3 hl hh (Nat.le_refl _) (Nat.le_refl _)
   have hsz : (⟨⟨l⟩⟩ : ByteArray).size = l.length := rfl
   simp only [Instr.sliceAt, Instr.slice, Sem.run_bind, hu, Result.andThen_ok, Option.isSome, Bool.false_eq_true, if_false, hsz, b1, Sem.run_pure, getE_take_drop]
   exact .same hr b4 (.str _)
 | slice e =>
  rw [hd] at h2 hu
  obtain ⟨n, s2, h3, h4⟩ := M.bind_ok h2
  obtain ⟨⟨j, hj, rfl⟩, rfl⟩ := sizeOf_ok h3
  have hz := hj.run_size (w := w)
  cases hm with
  | none =>
   simp only at h4
   split at h4
   ·obtain ⟨hq, lq, s2, s3, k1, k2, k3, ho3⟩ := bind2 h4 ho
    obtain ⟨rfl, rfl⟩ := pure_ok k3
    cases hx with
    | nils =>
     obtain ⟨b1, b2, b3, b4⟩ := run_bounds2 (P := E.P) (w := w) (isSl := true) (cap := 0) k1 k2 ho3 hl hh (Nat.le_refl _) (Nat.le_refl _)
     obtain rfl : hq = 0 := by omega
     obtain rfl : lq = 0 := by omega
     simp only [Instr.sliceAt, Instr.slice, Sem.run_bind, hu, Result.andThen_ok, b1, hz, Sem.run_pure]
     exact .same hr b4 .nils
   ·obtain ⟨hq, lq, s2, s3, k1, k2, k3, ho3⟩ := bind2 h4 ho
    obtain ⟨rfl, rfl⟩ := pure_ok k3
    cases hx with
    | emp ad =>
     obtain ⟨b1, b2, b3, b4⟩ := run_bounds2 (P := E.P) (w := w) (isSl := true) (cap := 0) k1 k2 ho3 hl hh (Nat.le_refl _) (Nat.le_refl _)
     obtain rfl : hq = 0 := by omega
     obtain rfl : lq = 0 := by omega
     simp only [Instr.sliceAt, Instr.slice, Sem.run_bind, hu, Result.andThen_ok, b1, hz, Sem.run_pure]
     exact .same hr b4 (.emp _)
   ·rename_i g sz off len
    obtain ⟨hsz, h5⟩ := sameSz_ok h4
    obtain ⟨hq, lq, s2, s3, k1, k2, k3, ho3⟩ := bind2 h5 ho
    obtain ⟨rfl, rfl⟩ := pure_ok k3
    cases hx with
    | isl _ _ _ _ b o c g' hg hrr hlc =>
     obtain ⟨b1, b2, b3, b4⟩ := run_bounds2 (P := E.P) (w := w) (isSl := true) (cap := c) k1 k2 ho3 hl hh (Nat.le_refl _) hlc
     simp only [Instr.sliceAt, Instr.slice, Sem.run_bind, hu, Result.andThen_ok, b1, hz, Sem.run_pure, Option.map_some, add_plain]
     refine .same hr b4 ?_
     by_cases e0 : c = lq
     ·subst e0
      have : hq - c = 0 := by omega
      rw [this, if_pos rfl]
      exact .isl0 _ _ _ _ _
     ·rw [if_neg e0]
      have hle : off + lq * j.size + (hq - lq) * sz ≤ off + len * sz := by
       rw [hsz, Nat.add_assoc, ← Nat.add_mul]
       exact Nat.add_le_add_left (Nat.mul_le_mul_right _ (by omega)) _
      have := R.isl (ρ := ρ) (m := m) g sz (off + lq * j.size) (hq - lq) b o (c - lq) g' (fun k hk => hg k (by omega)) (fun k hk => hrr k (by omega)) (by omega)
      rw [← Nat.add_assoc] at this
      exact this
    | isl0 _ _ _ c ad =>
     obtain ⟨b1, b2, b3, b4⟩ := run_bounds2 (P := E.P) (w := w) (isSl := true) (cap := c) k1 k2 ho3 hl hh (Nat.le_refl _) (Nat.zero_le _)
     obtain rfl : hq = 0 := by omega
     obtain rfl : lq = 0 := by omega
     simp only [Instr.sliceAt, Instr.slice, Sem.run_bind, hu, Result.andThen_ok, b1, hz, Sem.run_pure, Option.map_some]
     split <;> exact .same hr b4 (.isl0 _ _ _ _ _)
   ·rename_i id off len cap sz
    obtain ⟨hsz, h5⟩ := sameSz_ok h4
    cases cap with
    | some c =>
     obtain ⟨hq, lq, s2, s3, k1, k2, k3, ho3⟩ := bind2 h5 ho
     obtain ⟨rfl, rfl⟩ := pure_ok k3
     cases hx with
     | slx _ _ _ _ _ r hρ hlc =>
      obtain ⟨b1, b2, b3, b4⟩ := run_bounds2 (P := E.P) (w := w) (isSl := true) (cap := c) k1 k2 ho3 hl hh hlc (Nat.le_refl _)
      simp only [Instr.sliceAt, Instr.slice, Sem.run_bind, hu, Result.andThen_ok, b1, hz, Sem.run_pure, Option.map_some, add_plain]
      refine .same hr b4 ?_
      by_cases e0 : c = lq
      ·subst e0
       rw [if_pos rfl]
       have e1 : hq - c = 0 := by omega
       have e2 : c - c = 0 := by omega
       rw [e1, e2]
       exact .sl0 _ _ _ _ _ (fun k hk => by simpa using hk.symm) (fun hk => by cases hk)
      ·rw [if_neg e0]
       exact .slx _ _ _ _ _ r hρ (by omega)
     | sl0 _ _ _ _ ad hc hn =>
      obtain rfl : c = 0 := hc c rfl
      obtain ⟨b1, b2, b3, b4⟩ := run_bounds2 (P := E.P) (w := w) (isSl := true) (cap := 0) k1 k2 ho3 hl hh (Nat.le_refl _) (Nat.le_refl _)
      obtain rfl : hq = 0 := by omega
      obtain rfl : lq = 0 := by omega
      simp only [Instr.sliceAt, Instr.slice, Sem.run_bind, hu, Result.andThen_ok, b1, hz, Sem.run_pure]
      exact .same hr b4 (.sl0 _ _ _ _ _ (fun k hk => by simpa using hk.symm) (fun hk => by cases hk))
    | none =>
     obtain ⟨most, s0, k0, h5'⟩ := M.bind_ok h5
     obtain ⟨e0', hq0⟩ := roomOf_ok k0
     obtain ⟨hq, lq, s2, s3, k1, k2, k3, ho3⟩ := bind2 h5' ho
     obtain ⟨rfl, rfl⟩ := pure_ok k3
     cases hx with
     | slw _ _ _ c _ r hρ hlc hs hc =>
      obtain ⟨m1, m2⟩ := roomOf_le hr hρ hlc (by rw [← hsz] at hc; omega) hq0
      obtain ⟨b1, b2, b3, b4'⟩ := run_bounds2 (P := E.P) (w := w) (isSl := true) (cap := c) k1 k2 ho3 hl hh m1 m2
      have b4 := e0'.trans b4'
      simp only [Instr.sliceAt, Instr.slice, Sem.run_bind, hu, Result.andThen_ok, b1, hz, Sem.run_pure, Option.map_some, add_plain]
      refine .same hr b4 ?_
      by_cases e0 : c = lq
      ·subst e0
       rw [if_pos rfl]
       have e1 : hq - c = 0 := by omega
       have e2 : c - c = 0 := by omega
       rw [e1, e2]
       exact .sl0 _ _ _ _ _ (fun k hk => by cases hk) (fun _ => ⟨r, hρ, by rw [← hc, hsz]; exact Nat.le_refl _⟩)
      ·rw [if_neg e0]
       refine .slw _ _ _ _ _ r hρ (by omega) hs ?_
       rw [hsz, Nat.add_assoc, ← Nat.add_mul]
       have : lq + (c - lq) = c := by omega
       rw [this]; exact hc
     | sl0 _ _ _ _ ad hc hn =>
      obtain ⟨r0, hρ0, hn0⟩ := hn rfl
      obtain ⟨m1, m2⟩ := roomOf_le (cc := 0) hr hρ0 (Nat.le_refl _) (by omega) hq0
      obtain ⟨b1, b2, b3, b4'⟩ := run_bounds2 (P := E.P) (w := w) (isSl := true) (cap := 0) k1 k2 ho3 hl hh m1 m2
      have b4 := e0'.trans b4'
      obtain rfl : hq = 0 := by omega
      obtain rfl : lq = 0 := by omega
      simp only [Instr.sliceAt, Instr.slice, Sem.run_bind, hu, Result.andThen_ok, b1, hz, Sem.run_pure]
      exact .same hr b4 (.sl0 _ _ _ _ _ (fun k hk => by cases hk) (fun e => by obtain ⟨r, h1, h2⟩ := hn e; exact ⟨r, h1, by omega⟩))
   ·exact (fail_ok h4).elim
  | some mv mxv hmv =>
   simp only at h4
   cases hi with
   | none => exact (fail_ok h4).elim
   | some hv =>
    simp only at h4
    split at h4
    ·obtain ⟨q, hq, lq, s1, s2, s3, k0, k1, k2, k3, ho3⟩ := bind3 h4 ho
     obtain ⟨rfl, rfl⟩ := pure_ok k3
     cases hx with
     | nils =>
      obtain ⟨b1, b2, b3, b5, b4⟩ := run_bounds3 (P := E.P) (w := w) (cap := 0) k0 k1 k2 ho3 hl hh (.some _ _ hmv) (by simp) (by simp) (Nat.le_refl _)
      obtain rfl : q = 0 := by omega
      obtain rfl : hq = 0 := by omega
      obtain rfl : lq = 0 := by omega
      simp only [Instr.sliceAt, Instr.slice, Sem.run_bind, hu, Result.andThen_ok, b1, hz, Sem.run_pure]
      exact .same hr b4 .nils
    ·obtain ⟨q, hq, lq, s1, s2, s3, k0, k1, k2, k3, ho3⟩ := bind3 h4 ho
     obtain ⟨rfl, rfl⟩ := pure_ok k3
     cases hx with
     | emp ad =>
      obtain ⟨b1, b2, b3, b5, b4⟩ := run_bounds3 (P := E.P) (w := w) (cap := 0) k0 k1 k2 ho3 hl hh (.some _ _ hmv) (by simp) (by simp) (Nat.le_refl _)
      obtain rfl : q = 0 := by omega
      obtain rfl : hq = 0 := by omega
      obtain rfl : lq = 0 := by omega
      simp only [Instr.sliceAt, Instr.slice, Sem.run_bind, hu, Result.andThen_ok, b1, hz, Sem.run_pure]
      exact .same hr b4 (.emp _)
    ·rename_i g sz off len
     obtain ⟨hsz, h5⟩ := sameSz_ok h4
     obtain ⟨q, hq, lq, s1, s2, s3, k0, k1, k2, k3, ho3⟩ := bind3 h5 ho
     obtain ⟨rfl, rfl⟩ := pure_ok k3
     cases hx with
     | isl _ _ _ _ b o c g' hg hrr hlc =>
      obtain ⟨b1, b2, b3, b5, b4⟩ := run_bounds3 (P := E.P) (w := w) (cap := c) k0 k1 k2 ho3 hl hh (.some _ _ hmv) (by simp) (by simp) (Nat.zero_le _)
      obtain rfl : q = 0 := by omega
      obtain rfl : hq = 0 := by omega
      obtain rfl : lq = 0 := by omega
      simp only [Instr.sliceAt, Instr.slice, Sem.run_bind, hu, Result.andThen_ok, b1, hz, Sem.run_pure]
      exact .same hr b4 (.emp _)
     | isl0 _ _ _ c ad =>
      obtain ⟨b1, b2, b3, b5, b4⟩ := run_bounds3 (P := E.P) (w := w) (cap := c) k0 k1 k2 ho3 hl hh (.some _ _ hmv) (by simp) (by simp) (Nat.zero_le _)
      obtain rfl : q = 0 := by omega
      obtain rfl : hq = 0 := by omega
      obtain rfl : lq = 0 := by omega
      simp only [Instr.sliceAt, Instr.slice, Sem.run_bind, hu, Result.andThen_ok, b1, hz, Sem.run_pure]
      exact .same hr b4 (.emp _)
    ·rename_i id off len cap sz
     obtain ⟨hsz, h5⟩ := sameSz_ok h4
     obtain ⟨q, hq, lq, s1, s2, s3, k0, k1, k2, k3, ho3⟩ := bind3 h5 ho
     obtain ⟨rfl, rfl⟩ := pure_ok k3
     cases hx with
     | slx _ _ _ c _ r hρ hlc =>
      have hcc : (some c).getD len ≤ c := Nat.le_refl _
      obtain ⟨b1, b2, b3, b5, b4⟩ := run_bounds3 (P := E.P) (w := w) (cap := c) k0 k1 k2 ho3 hl hh (.some _ _ hmv) (by simp) (by simp) hcc
      simp only [Instr.sliceAt, Instr.slice, Sem.run_bind, hu, Result.andThen_ok, b1, hz, Sem.run_pure, Option.map_some, add_plain]
      refine .same hr b4 ?_
      by_cases e0 : q = lq
      ·subst e0
       rw [if_pos rfl]
       have e1 : hq - q = 0 := by omega
       have e2 : q - q = 0 := by omega
       rw [e1, e2]
       exact .sl0 _ _ _ _ _ (fun k hk => by simpa using hk.symm) (fun hk => by cases hk)
      ·rw [if_neg e0]
       exact .slx _ _ _ _ _ r hρ (by omega)
     | slw _ _ _ c _ r hρ hlc hs hc =>
      have hcc : (none : Option Nat).getD len ≤ c := hlc
      obtain ⟨b1, b2, b3, b5, b4⟩ := run_bounds3 (P := E.P) (w := w) (cap := c) k0 k1 k2 ho3 hl hh (.some _ _ hmv) (by simp) (by simp) hcc
      simp only [Instr.sliceAt, Instr.slice, Sem.run_bind, hu, Result.andThen_ok, b1, hz, Sem.run_pure, Option.map_some, add_plain]
      refine .same hr b4 ?_
      by_cases e0 : q = lq
      ·subst e0
       rw [if_pos rfl]
       have e1 : hq - q = 0 := by omega
       have e2 : q - q = 0 := by omega
       rw [e1, e2]
       exact .sl0 _ _ _ _ _ (fun k hk => by simpa using hk.symm) (fun hk => by cases hk)
      ·rw [if_neg e0]
       exact .slx _ _ _ _ _ r hρ (by omega)
     | sl0 _ _ _ _ ad hc hn =>
      have hc0 : cap.getD 0 ≤ 0 := by
       cases cap with
       | none => exact Nat.le_refl _
       | some k => have := hc k rfl; subst this; exact Nat.le_refl _
      obtain ⟨b1, b2, b3, b5, b4⟩ := run_bounds3 (P := E.P) (w := w) (cap := 0) k0 k1 k2 ho3 hl hh (.some _ _ hmv) (by simp) (by simp) hc0
      obtain rfl : q = 0 := by omega
      obtain rfl : hq = 0 := by omega
      obtain rfl : lq = 0 := by omega
      simp only [Instr.sliceAt, Instr.slice, Sem.run_bind, hu, Result.andThen_ok, b1, hz, Sem.run_pure]
      exact .same hr b4 (.sl0 _ _ _ _ _ (fun k hk => by simpa using hk.symm) (fun hk => by cases hk))
    ·exact (fail_ok h4).elim
 | array len e =>
  rw [hd] at h2 hu
  obtain ⟨n, s2, h3, h4⟩ := M.bind_ok h2
  obtain ⟨⟨j, hj, rfl⟩, rfl⟩ := sizeOf_ok h3
  have hz := hj.run_size (w := w)
  cases hm with
  | some _ _ _ => exact (fail_ok h4).elim
  | none =>
   obtain ⟨hq, lq, s2, s3, k1, k2, k3, ho3⟩ := bind2 h4 ho
   obtain ⟨b1, b2, b3, b4⟩ := run_bounds2 (P := E.P) (w := w) (isSl := false) (cap := len) k1 k2 ho3 hl hh (Nat.le_refl _) (Nat.le_refl _)
   split at k3
   ·rename_i id off
    obtain ⟨rfl, rfl⟩ := pure_ok k3
    cases hx with
    | ptr _ _ r hρ =>
     simp only [Instr.sliceAt, Sem.run_bind, hu, Result.andThen_ok, Instr.sureAddr, b1, hz, Sem.run_pure, add_plain]
     refine .same hr b4 ?_
     by_cases e0 : len = lq
     ·subst e0
      rw [if_pos rfl]
      have e1 : hq - len = 0 := by omega
      have e2 : len - len = 0 := by omega
      rw [e1, e2]
      exact .sl0 _ _ _ _ _ (fun k hk => by simpa using hk.symm) (fun hk => by cases hk)
     ·rw [if_neg e0]
      exact .slx _ _ _ _ _ r hρ (by omega)
   ·rename_i g mm off
    obtain ⟨_, s4, h5, h6, ho4, _, _⟩ := M.bind_did k3 ho
    obtain ⟨h7, h8⟩ := ob_ok h5 ho4
    obtain ⟨rfl, rfl⟩ := pure_ok h6
    have h7' := Nat.le_of_ble_eq_true h7
    cases hx with
    | ip _ _ _ b o g' hg hrr =>
     simp only [Instr.sliceAt, Sem.run_bind, hu, Result.andThen_ok, Instr.sureAddr, b1, hz, Sem.run_pure, add_plain]
     refine .same hr (b4.trans h8) ?_
     by_cases e0 : len = lq
     ·subst e0
      have e1 : hq - len = 0 := by omega
      rw [e1, if_pos rfl]
      exact .isl0 _ _ _ _ _
     ·rw [if_neg e0]
      have hle : off + lq * j.size + (hq - lq) * j.size ≤ off + len * j.size := by
       rw [Nat.add_assoc, ← Nat.add_mul]
       exact Nat.add_le_add_left (Nat.mul_le_mul_right _ (by omega)) _
      have := R.isl (ρ := ρ) (m := m) g j.size (off + lq * j.size) (hq - lq) b o (len - lq) g' (fun k hk => hg k (by omega)) (fun k hk => hrr k (by omega)) (by omega)
      rw [← Nat.add_assoc] at this
      exact this
   ·exact (fail_ok k3).elim
 | _ => rw [hd] at h2; exact (fail_ok h2).elim
end
end Go.Am
set_option linter.unusedSimpArgs false
set_option linter.unusedVariables false
namespace Go.Am
open Go
variable {E : Env}
section
variable {ρ : Ren} {m : Mem} {s s' : St} {w : World} {v : AVal}
theorem lenOf_sim {P : Program} {a : AVal} {n : Nat} (h : (lenOf a).run s = .ok n s') {x : Value} (hx : R ρ m a x) : s' = s ∧ (Builtin.lenOf x).run P w = .ok n w := by
 unfold lenOf at h
 split at h
 ·obtain ⟨rfl, rfl⟩ := pure_ok h; cases hx; exact ⟨rfl, rfl⟩
 ·obtain ⟨rfl, rfl⟩ := pure_ok h; cases hx; exact ⟨rfl, rfl⟩
 ·obtain ⟨rfl, rfl⟩ := pure_ok h; cases hx <;> exact ⟨rfl, rfl⟩
 ·obtain ⟨rfl, rfl⟩ := pure_ok h; cases hx <;> exact ⟨rfl, rfl⟩
 ·obtain ⟨rfl, rfl⟩ := pure_ok h; cases hx; exact ⟨rfl, rfl⟩
 ·exact (fail_ok h).elim
theorem byteCells_length : ∀ l : List UInt8, (byteCells l).length = l.length
 | [] => rfl
 | b :: l => by simp [byteCells, byteCells_length l]
theorem byteCells_get : ∀ (l : List UInt8) (i : Nat), (byteCells l)[i]? = (l[i]?).map fun b => AVal.int .u8 (b.toNat : Int)
 | [], i => by simp [byteCells]
 | b :: l, 0 => by simp [byteCells]
 | b :: l, i + 1 => by simp [byteCells, byteCells_get l i]
theorem byteCells_sim (l : List UInt8) : RL ρ m (byteCells l) (l.toArray.map fun b => .int .u8 b.toNat) := by
 refine ⟨by simp [byteCells_length], fun i a b ha hb => ?_⟩
 rw [byteCells_get] at ha
 simp only [Array.getElem?_map, List.getElem?_toArray] at hb
 cases hl : l[i]? with
 | none => rw [hl] at ha; cases ha
 | some c =>
  rw [hl] at ha hb
  simp only [Option.map_some, Option.some.injEq] at ha hb
  subst ha; subst hb
  exact .int _ _
theorem RL.nil : RL ρ m [] #[] := ⟨rfl, fun i _ _ h => by simp at h⟩
theorem RL.append {a b : List AVal} {x y : Array Value} (h : RL ρ m a x) (h' : RL ρ m b y) : RL ρ m (a ++ b) (x ++ y) := by
 refine ⟨by simp [h.len, h'.len], fun i c d hc hd => ?_⟩
 by_cases hi : i < a.length
 ·rw [List.getElem?_append_left hi] at hc
  rw [Array.getElem?_append_left (by rw [← h.len]; exact hi)] at hd
  exact h.at_ i c d hc hd
 ·rw [List.getElem?_append_right (by omega)] at hc
  rw [Array.getElem?_append_right (by rw [← h.len]; omega), ← h.len] at hd
  exact h'.at_ _ c d hc hd
theorem sliceCells_sim {P : Program} {a : AVal} {sz n : Nat} {cs : List AVal} (h : (sliceCells sz n a).run s = .ok cs s') (ho : OkObs s') (hr : Rel P ρ m s.heap.get w) {x : Value} (hx : R ρ m a x) :
  ∃ xs, (Builtin.firstCells sz n x).run P w = .ok xs w ∧ RL ρ m cs xs ∧ cs.length = n * sz ∧ Same s s' := by
 unfold sliceCells at h
 split at h
 ·obtain ⟨_, s1, h1, h2, ho1, _, _⟩ := M.bind_did h ho
  obtain ⟨hb, e⟩ := ob_ok h1 ho1
  obtain ⟨rfl, rfl⟩ := pure_ok h2
  obtain rfl := Nat.eq_of_beq_eq_true hb
  cases hx
  exact ⟨#[], rfl, .nil, by simp, e⟩
 ·obtain ⟨_, s1, h1, h2, ho1, _, _⟩ := M.bind_did h ho
  obtain ⟨hb, e⟩ := ob_ok h1 ho1
  obtain ⟨rfl, rfl⟩ := pure_ok h2
  obtain rfl := Nat.eq_of_beq_eq_true hb
  cases hx with
  | emp ad =>
   refine ⟨#[], ?_, .nil, by simp, e⟩
   cases ad with
   | none => rfl
   | some ad => simp only [Builtin.firstCells, Nat.zero_mul]; rfl
 ·rename_i id off len cap z
  obtain ⟨hz, h1⟩ := sameSz_ok h
  subst hz
  obtain ⟨b, s1, h2, h3, ho1, _, _⟩ := M.bind_did h1 ho
  obtain ⟨hg, e1⟩ := get_ok h2
  obtain ⟨c, t, rfl, h4⟩ := row_ok h3
  obtain ⟨_, s2, h5, h6, ho2, _, _⟩ := M.bind_did h4 ho
  obtain ⟨hb1, e2⟩ := ob_ok h5 ho2
  obtain ⟨_, s3, h7, h8, ho3, _, _⟩ := M.bind_did h6 ho
  obtain ⟨hb2, e3⟩ := ob_ok h7 ho3
  obtain ⟨rfl, rfl⟩ := pure_ok h8
  have hle := Nat.le_of_ble_eq_true hb2
  have hnl := Nat.le_of_ble_eq_true hb1
  have hread : ∀ r, ρ id = some r → ∃ xs, (loadCells ⟨r.b, off, none⟩ (n * z)).run P w = .ok xs w ∧ RL ρ m (c.sub off (n * z)) xs := by
   intro r hρ
   have hrd : (readCells (.ptr id off) (n * z)).run s = .ok (c.sub off (n * z)) { s with rds := id :: s.rds } := by
    have : (off + n * z).ble c.size = true := hb2
    simp only [readCells, M.bind, bindF, getB, getF, hg, rowK, ob, obF, M.pure, this]
   have ho' : OkObs { s with rds := id :: s.rds } := by
    have := (M.bind_ok h1)
    obtain ⟨_, _, _, d⟩ := ((getB id).bind (rowK fun c _ => (ob (n.ble len)).bind fun _ => (ob ((off + n * z).ble c.size)).bind fun _ => M.pure (c.sub off (n * z)))).loc _ _ _ h1
    have := ho.of d.obs
    simpa [OkObs] using this
   obtain ⟨ad, xs, e, k1, k2, k3, k4, k5⟩ := readCells_sim hrd ho' hr (.ptr id off r hρ)
   injection e with e
   injection e with e
   subst e
   exact ⟨xs.toArray, run_loadCells' k1 k2, k3⟩
  have hlen := Cont.sub_length hle
  cases hx with
  | slx _ _ _ cc _ r hρ hl =>
   obtain ⟨xs, k1, k2⟩ := hread r hρ
   exact ⟨xs, by simp only [Builtin.firstCells, k1], k2, hlen, (e1.trans e2).trans e3⟩
  | slw _ _ _ cc _ r hρ hl hs hc =>
   obtain ⟨xs, k1, k2⟩ := hread r hρ
   exact ⟨xs, by simp only [Builtin.firstCells, k1], k2, hlen, (e1.trans e2).trans e3⟩
  | sl0 _ _ _ _ ad hc hn =>
   have hn0 : n = 0 := by omega
   subst hn0
   refine ⟨#[], ?_, ?_, hlen, (e1.trans e2).trans e3⟩
   ·simp only [Builtin.firstCells, Nat.zero_mul]; rfl
   ·rw [Nat.zero_mul] at hlen ⊢
    rw [List.eq_nil_of_length_eq_zero hlen]; exact .nil
 ·rename_i g z off len
  obtain ⟨hz, h1⟩ := sameSz_ok h
  subst hz
  obtain ⟨_, s1, h2, h3, ho1, _, _⟩ := M.bind_did h1 ho
  obtain ⟨hb, e⟩ := ob_ok h2 ho1
  obtain ⟨rfl, rfl⟩ := pure_ok h3
  have hnl := Nat.le_of_ble_eq_true hb
  cases hx with
  | isl _ _ _ _ b o c g' hg hrr hl =>
   have hmul : n * z ≤ len * z := Nat.mul_le_mul_right _ hnl
   have hrd : (readCells (.ip g (off + len * z) off) (n * z)).run s = .ok (cellsOf g off (n * z)) s := by
    have : (off + n * z).ble (off + len * z) = true := by simpa using hmul
    simp only [readCells, M.bind, bindF, ob, obF, M.pure, this]
   have ho' : OkObs s := by
    obtain ⟨_, _, _, d⟩ := ((ob (n.ble len)).bind fun _ => M.pure (cellsOf g off (n * z))).loc _ _ _ h1
    exact ho.of d.obs
   obtain ⟨ad, xs, e', k1, k2, k3, k4, k5⟩ := readCells_sim hrd ho' hr (.ip g (off + len * z) off b o g' hg hrr)
   injection e' with e'
   injection e' with e'
   subst e'
   exact ⟨xs.toArray, by simp only [Builtin.firstCells, run_loadCells' k1 k2], k3, k4, e⟩
  | isl0 _ _ _ c ad =>
   have hn0 : n = 0 := by omega
   subst hn0
   refine ⟨#[], ?_, ?_, by simp [cellsOf_length], e⟩
   ·simp only [Builtin.firstCells, Nat.zero_mul]; rfl
   ·rw [Nat.zero_mul]; exact .nil
 ·rename_i l
  obtain ⟨hz, h1⟩ := sameSz_ok h
  subst hz
  obtain ⟨_, s1, h2, h3, ho1, _, _⟩ := M.bind_did h1 ho
  obtain ⟨hb, e⟩ := ob_ok h2 ho1
  obtain ⟨rfl, rfl⟩ := pure_ok h3
  have hnl := Nat.le_of_ble_eq_true hb
  obtain rfl := hx.str_inv
  refine ⟨(l.take n).toArray.map fun b => .int .u8 b.toNat, ?_, byteCells_sim _, by simp [byteCells_length]; omega, e⟩
  simp only [Builtin.firstCells, getE_take_drop, List.drop_zero, Sem.run_pure]
 ·exact (fail_ok h).elim
theorem growBy_le (need : Nat) : ∀ (k c : Nat), 256 ≤ c → c ≤ 2 * need → Builtin.growBy need k c ≤ 2 * need
 | 0, c, _, h => h
 | k + 1, c, h1, h2 => by
  simp only [Builtin.growBy]
  split
  ·exact h2
  ·exact growBy_le need k _ (by omega) (by omega)
theorem nextslicecap_le {need cap : Nat} (h : cap < need) : Builtin.nextslicecap need cap ≤ 2 * need := by
 unfold Builtin.nextslicecap
 split
 ·omega
 ·split
  ·omega
  ·exact growBy_le need 4 cap (by omega) (by omega)
theorem grown_sim {e : TypeId} {i : TI} {need : Nat} {cs : List AVal} (h : (grown e i need cs).run s = .ok v s') (ho : OkObs s') (hr : Rel E.P ρ m s.heap.get w) (hf : Fresh ρ s s') (hi : TOk E.P e i) {xs : Array Value} (hx : RL ρ m cs xs)
  (hl : cs.length = need * i.size) (newCap : Nat) (hcap : need ≤ newCap) (zx : Array Value) (hz : zx.size = i.size) :
  2 * need * i.bytes ≤ 281474976710656 ∧ need ≤ 281474976710656 ∧
  ∃ ρ', Post E.P ρ m s w ρ' m s' (w.alloc (.cells (xs ++ Builtin.zeroCells zx (newCap - need)) e)) ∧ R ρ' m v (.slice (some ⟨w.heap.size, 0, none⟩) need newCap) := by
 obtain ⟨_, s1, h1, h2, ho1, _, _⟩ := M.bind_did h ho
 obtain ⟨hb, e1⟩ := ob_ok h1 ho1
 obtain ⟨id, s2, h3, h4⟩ := M.bind_ok h2
 obtain ⟨rfl, rfl⟩ := pure_ok h4
 simp only [Bool.and_eq_true] at hb
 have hb1 := Nat.le_of_ble_eq_true hb.1
 have hb2 := Nat.le_of_ble_eq_true hb.2
 have hr1 : Rel E.P ρ m s1.heap.get w := hr.congr (fun id => by rw [e1.heap])
 have hf1 : Fresh ρ s1 s' := fun id hid => hf id ⟨by have := hid.1; rw [e1.next] at this; exact this, hid.2⟩
 have hzs : (Builtin.zeroCells zx (newCap - need)).size = (newCap - need) * i.size := by simp [Builtin.zeroCells, hz]
 obtain ⟨eid, hp⟩ := newRow_sim h3 hr1 hf1 hi (arr := xs ++ Builtin.zeroCells zx (newCap - need)) (by simp [Cont.size, hx.len]) (fun j y hj hy => by
  simp only [Cont.size] at hj
  rw [Array.getElem?_append_left (by rw [← hx.len]; exact hj)] at hy
  simp only [Cont.at, nth_get, List.getElem?_eq_getElem hj, Option.getD_some]
  exact hx.at_ j _ y (List.getElem?_eq_getElem hj) hy)
 have hsize : (xs ++ Builtin.zeroCells zx (newCap - need)).size = newCap * i.size := by
  rw [Array.size_append, hzs, ← hx.len, hl, ← Nat.add_mul]
  congr 1; omega
 refine ⟨hb1, hb2, _, (Post.of_same hr e1).trans hp, ?_⟩
 exact .slw id 0 need newCap i.size ⟨w.heap.size, (xs ++ Builtin.zeroCells zx (newCap - need)).size, i.size⟩ (by unfold Ren.put; rw [if_pos rfl]) hcap rfl (by show 0 + newCap * i.size = (xs ++ Builtin.zeroCells zx (newCap - need)).size; rw [hsize]; omega)
theorem Fresh.of_same {ρ : Ren} {s s1 s2 : St} (h : Fresh ρ s s2) (e : Same s s1) : Fresh ρ s1 s2 := fun id hid => h id ⟨by have := hid.1; rw [e.next] at this; exact this, hid.2⟩
theorem Rel.of_same {P : Program} {ρ : Ren} {m : Mem} {s s1 : St} {w : World} (h : Rel P ρ m s.heap.get w) (e : Same s s1) : Rel P ρ m s1.heap.get w := h.congr (fun id => by rw [e.heap])
theorem Post.after {P : Program} {ρ ρ' : Ren} {m m' : Mem} {s s1 s2 : St} {w w' : World} (h : Post P ρ m s1 w ρ' m' s2 w') (e : Same s s1) : Post P ρ m s w ρ' m' s2 w' :=
 ⟨h.ren, fun id hid => (h.new id hid).imp_right fun x => ⟨by have := x.1; rw [e.next] at this; exact this, x.2⟩, h.mem, h.rel, h.fr, by have := h.next; rw [e.next] at this; exact this⟩
theorem Post.drew {P : Program} {ρ ρ' : Ren} {m m' : Mem} {s s2 : St} {w w' : World} (h : Post P ρ m s { w with drawn := w.drawn + 1 } ρ' m' s2 w') : Post P ρ m s w ρ' m' s2 w' :=
 ⟨h.ren, h.new, h.mem, h.rel, (Fr.drew w).trans h.fr, h.next⟩
theorem run_append_grow {P : Program} {w : World} {ts : Array TypeId} {ty t t2 : TypeId} {rest : List TypeId} (hts : ts.toList = t :: t2 :: rest) {e : TypeId} {i : TI} (hu : (underlying t).run P w = .ok (.slice e) w) {d2 : TypeDesc}
  (hu2 : (underlying t2).run P w = .ok d2 w) (hd2 : intB d2 = false) (hi : TOk P e i) {base : Option Addr} {sLen sCap n : Nat} {x : Value} (hn : (Builtin.lenOf x).run P w = .ok n w) (hroom : ¬ sLen + n ≤ sCap)
  (hb : 2 * (sLen + n) * i.bytes ≤ 281474976710656) (hneed : sLen + n ≤ 281474976710656) {ys xs : Array Value} (hy : (Builtin.firstCells i.size sLen (.slice base sLen sCap)).run P { w with drawn := w.drawn + 1 } = .ok ys { w with drawn := w.drawn + 1 })
  (hx : (Builtin.firstCells i.size n x).run P { w with drawn := w.drawn + 1 } = .ok xs { w with drawn := w.drawn + 1 }) :
  ∃ (newCap : Nat) (z : Value), sLen + n ≤ newCap ∧ ofValue z = i.zero ∧ (Builtin.append_ ts ty #[.slice base sLen sCap, x]).run P w =
   .ok (.slice (some ⟨w.heap.size, 0, none⟩) (sLen + n) newCap) (({ w with drawn := w.drawn + 1 } : World).alloc (.cells (ys ++ xs ++ Builtin.zeroCells z.cells (newCap - (sLen + n))) e)) := by
 obtain ⟨j, hj, hjs, hjb, z, hjz, hzi⟩ := hi.run_info (w := w)
 have h0 : ts[0]? = some t := by rw [← Array.getElem?_toList, hts]; rfl
 have h1 : ts[1]? = some t2 := by rw [← Array.getElem?_toList, hts]; rfl
 have hmax : ¬ (((sLen + n : Nat) : Int) > IntKind.i64.max) := by
  have : IntKind.i64.max = 9223372036854775807 := rfl
  rw [this]; omega
 have hns : ¬ (Builtin.nextslicecap (sLen + n) sCap * j.bytes > 2 ^ 48) := by
  have h2 := nextslicecap_le (show sCap < sLen + n by omega)
  have h3 : Builtin.nextslicecap (sLen + n) sCap * j.bytes ≤ 2 * (sLen + n) * j.bytes := Nat.mul_le_mul_right _ h2
  rw [hjb] at h3 ⊢
  omega
 refine ⟨(Question.appendCap (sLen + n) sCap e).cut (w.tape w.drawn (.appendCap (sLen + n) sCap e)), z, ?_, hzi, ?_⟩
 ·simp only [Question.cut]; omega
 ·have hz1 : ∀ w' : World, (zeroValue e).run P w' = .ok z w' := by
   intro w'
   obtain ⟨j', q, hj', _, _, hq, hv⟩ := hi.info
   have : (typeInfo e).run P w = .ok j' w := by simp [typeInfo, hj']
   rw [hj] at this
   injection this with e1 _
   subst e1
   simp [zeroValue, typeInfo, hj', hjz]
  have hj1 : ∀ w' : World, (typeInfo e).run P w' = .ok j w' := by
   intro w'
   obtain ⟨j', q, hj', _, _, hq, hv⟩ := hi.info
   have : (typeInfo e).run P w = .ok j' w := by simp [typeInfo, hj']
   rw [hj] at this
   injection this with e1 _
   subst e1
   simp [typeInfo, hj']
  have hf : (Question.appendCap (sLen + n) sCap e).forced = false := rfl
  cases d2 with
  | int k => cases hd2
  | _ => simp only [Builtin.append_, h0, h1, List.getElem?_toArray, List.getElem?_cons_zero, List.getElem?_cons_succ, Sem.run_bind, hu, Result.andThen_ok, hi.run_size, hu2, Sem.run_pure, Bool.false_eq_true, if_false, hn, hroom, hj1, hmax, false_and, hns, run_choose, hf, run_askRoom, hy, Bool.not_false, if_true, hx, hz1, run_newRow]
end
end Go.Am
set_option linter.unusedSimpArgs false
set_option linter.unusedVariables false
namespace Go.Am
open Go
variable {E : Env}
section
variable {ρ : Ren} {m : Mem} {s s' : St} {w : World} {v : AVal}
theorem firstCells_zero {P : Program} {a : AVal} (h : (lenOf a).run s = .ok 0 s') {x : Value} (hx : R ρ m a x) (sz : Nat) : (Builtin.firstCells sz 0 x).run P w = .ok #[] w := by
 have ld : ∀ ad : Addr, (loadCells ad (0 * sz)).run P w = .ok #[] w := fun ad => by rw [Nat.zero_mul]; rfl
 have sl : ∀ (o : Option Addr) (l c : Nat), (Builtin.firstCells sz 0 (.slice o l c)).run P w = .ok #[] w := fun o l c => by
  cases o with
  | none => rfl
  | some ad => simp only [Builtin.firstCells, ld]
 unfold lenOf at h
 split at h
 ·cases hx; exact sl _ _ _
 ·cases hx; exact sl _ _ _
 ·cases hx <;> exact sl _ _ _
 ·cases hx <;> exact sl _ _ _
 ·cases hx
  simp [Builtin.firstCells, getE_take_drop]
 ·exact (fail_ok h).elim
theorem run_append_fit {P : Program} {w w' : World} {ts : Array TypeId} {ty t t2 : TypeId} {rest : List TypeId} (hts : ts.toList = t :: t2 :: rest) {e : TypeId} {i : TI} (hu : (underlying t).run P w = .ok (.slice e) w) {d2 : TypeDesc}
  (hu2 : (underlying t2).run P w = .ok d2 w) (hd2 : intB d2 = false) (hi : TOk P e i) {base : Option Addr} {sLen sCap n : Nat} {x : Value} (hn : (Builtin.lenOf x).run P w = .ok n w) (hroom : sLen + n ≤ sCap)
  {xs : Array Value} (hx : (Builtin.firstCells i.size n x).run P w = .ok xs w) (hst : ∀ a, base = some a → (storeCells (a.add (sLen * i.size)) xs.toList).run P w = .ok () w') (hno : base = none → w' = w) :
  (Builtin.append_ ts ty #[.slice base sLen sCap, x]).run P w = .ok (.slice base (sLen + n) sCap) w' := by
 have h0 : ts[0]? = some t := by rw [← Array.getElem?_toList, hts]; rfl
 have h1 : ts[1]? = some t2 := by rw [← Array.getElem?_toList, hts]; rfl
 cases base with
 | none =>
  obtain rfl := hno rfl
  cases d2 with
  | int k => cases hd2
  | _ => simp only [Builtin.append_, h0, h1, List.getElem?_toArray, List.getElem?_cons_zero, List.getElem?_cons_succ, Sem.run_bind, hu, Result.andThen_ok, hi.run_size, hu2, Sem.run_pure, Bool.false_eq_true, if_false, hn, hroom, Bool.not_false, if_true, hx]
 | some a =>
  have := hst a rfl
  cases d2 with
  | int k => cases hd2
  | _ => simp only [Builtin.append_, h0, h1, List.getElem?_toArray, List.getElem?_cons_zero, List.getElem?_cons_succ, Sem.run_bind, hu, Result.andThen_ok, hi.run_size, hu2, Sem.run_pure, Bool.false_eq_true, if_false, hn, hroom, Bool.not_false, if_true, hx, this]
theorem Rel.rename {P : Program} {ρ : Ren} {m : Mem} {h h' : Nat → Option Blk} {w : World} (hr : Rel P ρ m h w) {id id' : Nat} {b : Blk} {r : RB} (hg : h id = some b) (hρ : ρ id = some r) (hn : ρ id' = none)
  (hh : ∀ j, h' j = if j = id' then some b else if j = id then none else h j) : Rel P (ρ.put id' r) m h' w where
 live := fun j c hj => by
  rw [hh j] at hj
  by_cases e : j = id'
  ·subst e
   simp only [if_true, Option.some.injEq] at hj
   subst hj
   obtain ⟨rb, o, q1, q2, q3, q4⟩ := hr.live id b hg
   rw [hρ] at q1
   injection q1 with q1
   subst q1
   exact ⟨r, o, by simp [Ren.put], q2, q3.mono (RenLe.put hn) (.refl m), q4⟩
  ·by_cases e2 : j = id
   ·simp [e, e2] at hj
    obtain ⟨h1, h2⟩ := hj
    exact absurd e2 (fun _ => e (e2.trans h1))
   ·simp only [e, e2, if_false] at hj
    obtain ⟨rb, o, q1, q2, q3, q4⟩ := hr.live j c hj
    exact ⟨rb, o, RenLe.put hn _ _ q1, q2, q3.mono (RenLe.put hn) (.refl m), q4⟩
 inj := fun i j b1 b2 r1 r2 h1 h2 h3 h4 h5 => by
  rw [hh] at h1 h2
  unfold Ren.put at h3 h4
  by_cases e1 : i = id'
  ·by_cases e2 : j = id'
   ·rw [e1, e2]
   ·by_cases e3 : j = id
    ·simp only [e2, e3, if_false, if_true] at h2
     split at h2
     ·exact absurd (e3.trans (by assumption)) e2
     ·cases h2
    ·simp only [e1, e2, e3, if_false, if_true, Option.some.injEq] at h2 h3 h4
     subst h3
     exact absurd (hr.inj id j b b2 r r2 hg h2 hρ h4 h5).symm e3
  ·by_cases e3 : i = id
   ·simp only [e1, e3, if_false, if_true] at h1
    split at h1
    ·exact absurd (e3.trans (by assumption)) e1
    ·cases h1
   ·by_cases e2 : j = id'
    ·simp only [e1, e2, e3, if_false, if_true, Option.some.injEq] at h1 h3 h4
     subst h4
     exact absurd (hr.inj i id b1 b r1 r h1 hg h3 hρ h5) e3
    ·by_cases e4 : j = id
     ·simp only [e2, e4, if_false, if_true] at h2
      split at h2
      ·exact absurd (e4.trans (by assumption)) e2
      ·cases h2
     ·simp only [e1, e2, e3, e4, if_false] at h1 h2 h3 h4
      exact hr.inj i j b1 b2 r1 r2 h1 h2 h3 h4 h5
 mem := hr.mem
theorem grow_sim {ts : Array TypeId} {ty t t2 : TypeId} {rest : List TypeId} (hts : ts.toList = t :: t2 :: rest) {e : TypeId} {i : TI} (hu : (underlying t).run E.P w = .ok (.slice e) w) {d2 : TypeDesc}
  (hu2 : (underlying t2).run E.P w = .ok d2 w) (hd2 : intB d2 = false) (hi : TOk E.P e i) {base : Option Addr} {sLen sCap n : Nat} {x : Value} (hn : (Builtin.lenOf x).run E.P w = .ok n w) (hroom : ¬ sLen + n ≤ sCap)
  {ys xs : List AVal} {ya xa : Array Value} (hy : (Builtin.firstCells i.size sLen (.slice base sLen sCap)).run E.P { w with drawn := w.drawn + 1 } = .ok ya { w with drawn := w.drawn + 1 })
  (hx : (Builtin.firstCells i.size n x).run E.P { w with drawn := w.drawn + 1 } = .ok xa { w with drawn := w.drawn + 1 }) (ly : RL ρ m ys ya) (lx : RL ρ m xs xa) (hly : ys.length = sLen * i.size) (hlx : xs.length = n * i.size)
  {need : Nat} (hne : need = sLen + n) (h : (grown e i need (ys ++ xs)).run s = .ok v s') (ho : OkObs s') (hr : Rel E.P ρ m s.heap.get w) (hf : Fresh ρ s s') :
  Out E.P ρ m s w s' v ((Builtin.append_ ts ty #[.slice base sLen sCap, x]).run E.P w) := by
 subst hne
 have hlen : (ys ++ xs).length = (sLen + n) * i.size := by rw [List.length_append, hly, hlx, Nat.add_mul]
 obtain ⟨b1, b2, _⟩ := grown_sim h ho hr.drew hf hi (ly.append lx) hlen (sLen + n) (Nat.le_refl _) (Array.replicate i.size Go.undef) (by simp)
 obtain ⟨newCap, z, k1, k2, k3⟩ := run_append_grow (ty := ty) hts hu hu2 hd2 hi hn hroom b1 b2 hy hx
 have hz : z.cells.size = i.size := by rw [← (hi.zcells (ρ := ρ) (m := m) k2).len, hi.zsize]
 obtain ⟨_, _, ρ', g1, g2⟩ := grown_sim h ho hr.drew hf hi (ly.append lx) hlen newCap k1 z.cells hz
 exact ⟨_, _, ρ', k3, g1.drew, g2⟩
theorem zeroCells_sim {zs : List AVal} {zx : Array Value} (hz : RL ρ m zs zx) (n : Nat) : RL ρ m (reps zs n) (Builtin.zeroCells zx n) := by
 have := reps_sim hz n
 exact this
theorem appendZ_sim {ts : Array TypeId} {ty t t2 : TypeId} (hts : ts.toList = [t, t2]) {i2 : TI} (hi2 : TOk E.P t2 i2) (hd2 : intB i2.desc = true) {a b : AVal} (h : (intK (appendZ E t a) b).run s = .ok v s') (ho : OkObs s')
  (hr : Rel E.P ρ m s.heap.get w) (hf : Fresh ρ s s') {x y : Value} (hx : R ρ m a x) (hy : R ρ m b y) : Out E.P ρ m s w s' v ((Builtin.append_ ts ty #[x, y]).run E.P w) := by
 obtain ⟨kn, hkn⟩ : ∃ kn, i2.desc = .int kn := by
  cases hd : i2.desc with
  | int k => exact ⟨k, rfl⟩
  | _ => rw [hd] at hd2; cases hd2
 obtain rfl : ts = #[t, t2] := by rw [← Array.toArray_toList (xs := ts), hts]
 unfold intK at h
 split at h
 ·rename_i kq kk
  obtain rfl := hy.int_inv
  unfold appendZ at h
  obtain ⟨d, s1, h1, h2⟩ := M.bind_ok h
  obtain ⟨⟨i0, hi0, rfl⟩, rfl⟩ := und_ok h1
  cases hd : i0.desc with
  | slice e =>
   rw [hd] at h2
   obtain ⟨i, s2, h3, h4⟩ := M.bind_ok h2
   obtain ⟨hi, rfl⟩ := ti_ok h3
   cases a with
   | sl id off len cap sz =>
    cases cap with
    | some mm =>
     obtain ⟨hsz, h5⟩ := sameSz_ok h4
     obtain ⟨_, s3, h6, h7, ho3, _, hnx3⟩ := M.bind_did h5 ho
     obtain ⟨hb, e3⟩ := ob_ok h6 ho3
     obtain ⟨g0, g1, g2, g3⟩ := of_decide_eq_true hb
     obtain ⟨ys, s4, h8, h9, ho4, _, hnx4⟩ := M.bind_did h7 ho
     have hr3 := hr.of_same e3
     obtain ⟨ya, q1, q2, q3, e4⟩ := sliceCells_sim h8 ho4 hr3.drew hx
     have e34 := e3.trans e4
     have hr4 := hr.of_same e34
     have hf4 := hf.of_same e34
     obtain ⟨j, z, hj, hjs, hjb, hjz, hz⟩ := hi.info
     have hzc := hi.zcells (ρ := ρ) (m := m) hz
     have hzs : z.cells.size = i.size := by rw [← hzc.len, hi.zsize]
     have hxl : RL ρ m (ys ++ reps i.zero.cells kk.toNat) (ya ++ Builtin.zeroCells z.cells kk.toNat) := q2.append (zeroCells_sim hzc _)
     have hlen : (ys ++ reps i.zero.cells kk.toNat).length = (len + kk.toNat) * i.size := by
      rw [List.length_append, q3, reps_length, hi.zsize, Nat.add_mul]
     obtain ⟨base, hxe⟩ : ∃ base : Option Addr, x = .slice base len mm := by
      cases hx with
      | slx _ _ _ c _ r hρ hl => exact ⟨_, rfl⟩
      | sl0 _ _ _ _ ad hc hn =>
       have := hc mm rfl
       subst this
       exact ⟨_, rfl⟩
     subst hxe
     obtain ⟨b1, b2, _⟩ := grown_sim h9 ho hr4.drew hf4 hi hxl hlen (len + kk.toNat) (Nat.le_refl _) (Array.replicate i.size Go.undef) (by simp)
     have hk : kk = ((kk.toNat : Nat) : Int) := by omega
     have hnx := nextslicecap_le g1
     have hb : i.bytes * 1 ≤ i.bytes * 1 := Nat.le_refl _
     have run := Lib.run_append_grow_zeros w t t2 ty e j z kq kn (by rw [hi0.und, hd]) (by rw [hi2.und, hkn]) hj hjz base len mm ya.toList (by rw [hjs]; simpa using q1) kk.toNat (by omega) (by omega) g1 (by omega)
      (by
       rw [hjb]
       refine Nat.le_trans (Nat.mul_le_mul_right _ ?_) b1
       omega)
      (by
       rw [hjb]
       exact Nat.le_trans (Nat.mul_le_mul_right _ hnx) b1)
     rw [← hk] at run
     have hcap : len + kk.toNat ≤ grownCap w (len + kk.toNat) mm e := grownCap_ge w _ _ _
     obtain ⟨_, _, ρ', p1, p2⟩ := grown_sim h9 ho hr4.drew hf4 hi hxl hlen _ hcap z.cells hzs
     exact ⟨_, _, ρ', run, (p1.drew).after e34, p2⟩
    | none => exact (fail_ok h4).elim
   | _ => exact (fail_ok h4).elim
  | _ => rw [hd] at h2; exact (fail_ok h2).elim
 ·exact (fail_ok h).elim
theorem append_sim {ts : Array TypeId} {ty t t2 : TypeId} {rest : List TypeId} (hts : ts.toList = t :: t2 :: rest) {i2 : TI} (hi2 : TOk E.P t2 i2) (hd2 : intB i2.desc = false) {a b : AVal} (h : (append E t a b).run s = .ok v s') (ho : OkObs s')
  (hr : Rel E.P ρ m s.heap.get w) (hf : Fresh ρ s s') {x y : Value} (hx : R ρ m a x) (hy : R ρ m b y) : Out E.P ρ m s w s' v ((Builtin.append_ ts ty #[x, y]).run E.P w) := by
 obtain ⟨d, s1, h1, h2⟩ := M.bind_ok h
 obtain ⟨⟨i0, hi0, rfl⟩, rfl⟩ := und_ok h1
 have hu := hi0.run_und (w := w)
 have hu2 := hi2.run_und (w := w)
 cases hd : i0.desc with
 | slice e =>
  rw [hd] at h2 hu
  obtain ⟨i, s2, h3, h4⟩ := M.bind_ok h2
  obtain ⟨hi, rfl⟩ := ti_ok h3
  obtain ⟨n, s3, h5, h6⟩ := M.bind_ok h4
  obtain ⟨rfl, hn⟩ := lenOf_sim (P := E.P) (w := w) h5 hy
  obtain ⟨nothing, s4, h7, h8, ho4, _, hnx⟩ := M.bind_did h6 ho
  obtain ⟨hq, e4⟩ := ask_ok h7 ho4
  have hr4 := hr.of_same e4
  have hf4 := hf.of_same e4
  cases nothing with
  | true =>
   have hn0 : n = 0 := Nat.eq_of_beq_eq_true hq.symm
   subst hn0
   have hfc := firstCells_zero (P := E.P) (w := w) h5 hy i.size
   have fin : ∀ (base : Option Addr) (l c : Nat), l ≤ c → (Builtin.append_ ts ty #[.slice base l c, y]).run E.P w = .ok (.slice base l c) w := fun base l c hlc =>
    run_append_fit hts hu hu2 hd2 hi hn (by omega) hfc (fun a _ => rfl) (fun _ => rfl)
   try simp only at h8
   split at h8
   ·obtain ⟨rfl, rfl⟩ := pure_ok h8
    cases hx with
    | nils => rw [fin none 0 0 (Nat.le_refl _)]; exact .same hr e4 .nils
   ·obtain ⟨rfl, rfl⟩ := pure_ok h8
    cases hx with
    | emp ad => rw [fin ad 0 0 (Nat.le_refl _)]; exact .same hr e4 (.emp _)
   ·obtain ⟨rfl, rfl⟩ := pure_ok h8
    cases hx with
    | slx _ _ _ c _ r hρ hl => rw [fin _ _ _ hl]; exact .same hr e4 (.slx _ _ _ _ _ r hρ hl)
    | slw _ _ _ c _ r hρ hl hs hc => rw [fin _ _ _ hl]; exact .same hr e4 (.slw _ _ _ _ _ r hρ hl hs hc)
    | sl0 _ _ _ _ ad hc hn' => rw [fin _ _ _ (Nat.le_refl _)]; exact .same hr e4 (.sl0 _ _ _ _ _ hc hn')
   ·obtain ⟨rfl, rfl⟩ := pure_ok h8
    cases hx with
    | isl _ _ _ _ b o c g' hg hrr hl => rw [fin _ _ _ hl]; exact .same hr e4 (.isl _ _ _ _ b o c g' hg hrr hl)
    | isl0 _ _ _ c ad => rw [fin _ _ _ (Nat.zero_le _)]; exact .same hr e4 (.isl0 _ _ _ _ _)
   ·exact (fail_ok h8).elim
  | false =>
   have hn0 : n ≠ 0 := by rintro rfl; cases hq
   obtain ⟨xs, s5, h9, h10, ho5, _, _⟩ := M.bind_did h8 ho
   obtain ⟨xa, k1, k2, k3, e5⟩ := sliceCells_sim h9 ho5 hr4 hy
   obtain ⟨xa1, q1, q2, q3, _⟩ := sliceCells_sim h9 ho5 hr4.drew hy
   have e45 := e4.trans e5
   have hr5 := hr.of_same e45
   have hf5 := hf.of_same e45
   have fc0 : ∀ (o : Option Addr) (l c : Nat) (w : World), (Builtin.firstCells i.size 0 (.slice o l c)).run E.P w = .ok #[] w := by
    intro o l c w
    cases o with
    | none => rfl
    | some ad => simp only [Builtin.firstCells, Nat.zero_mul]; rfl
   try simp only at h10
   split at h10
   ·cases hx with
    | nils =>
     obtain ⟨z, w', ρ', g1, g2, g3⟩ := grow_sim (ys := []) (base := none) (sLen := 0) (sCap := 0) (ty := ty) hts hu hu2 hd2 hi hn (by omega) (fc0 _ _ _ _) q1 .nil q2 (by simp) q3 (by omega) h10 ho hr5 hf5
     exact ⟨z, w', ρ', g1, g2.after e45, g3⟩
   ·cases hx with
    | emp ad =>
     obtain ⟨z, w', ρ', g1, g2, g3⟩ := grow_sim (ys := []) (base := ad) (sLen := 0) (sCap := 0) (ty := ty) hts hu hu2 hd2 hi hn (by omega) (fc0 _ _ _ _) q1 .nil q2 (by simp) q3 (by omega) h10 ho hr5 hf5
     exact ⟨z, w', ρ', g1, g2.after e45, g3⟩
   ·rename_i id off len cap sz
    obtain ⟨hsz, h11⟩ := sameSz_ok h10
    obtain ⟨bb, s6, h12, h13, ho6, _, _⟩ := M.bind_did h11 ho
    obtain ⟨hg, e6⟩ := get_ok h12
    obtain ⟨c, t', rfl, h14⟩ := row_ok h13
    have e46 := e45.trans e6
    cases cap with
    | some mm =>
     obtain ⟨fits, s7, h15, h16, ho7, _, _⟩ := M.bind_did h14 ho
     obtain ⟨hq2, e7⟩ := ask_ok h15 ho7
     have e47 := e46.trans e7
     have hr7 := hr.of_same e47
     have hf7 := hf.of_same e47
     cases fits with
     | true =>
      have hle : len + n ≤ mm := Nat.le_of_ble_eq_true hq2.symm
      obtain ⟨_, s8, h17, h18⟩ := M.bind_ok h16
      obtain ⟨rfl, rfl⟩ := pure_ok h18
      cases hx with
      | slx _ _ _ _ _ r hρ hl =>
       obtain ⟨ad, w', g1, g2, g3⟩ := writeCells_sim h17 ho hr7 (.ptr id (off + len * i.size) r hρ) (xs := xa.toList) (by simpa using k2.len) (fun j p q hp hq => k2.at_ j p q hp (by simpa using hq))
       injection g1 with g1
       injection g1 with g1
       subst g1
       refine ⟨_, w', ρ, run_append_fit hts hu hu2 hd2 hi hn hle k1 (fun a ha => ?_) (fun h => by cases h), g3.after e47, .slx _ _ _ _ _ r hρ hle⟩
       injection ha with ha
       subst ha
       rw [add_plain]; exact g2
      | sl0 _ _ _ _ ad hc hn' =>
       have := hc mm rfl
       omega
     | false =>
      have hle : ¬ len + n ≤ mm := fun x => by
       have : (len + n).ble mm = true := Nat.ble_eq_true_of_le x
       rw [this] at hq2; cases hq2
      obtain ⟨ys, s8, h17, h18, ho8, _, _⟩ := M.bind_did h16 ho
      obtain ⟨ya, p1, p2, p3, e8⟩ := sliceCells_sim h17 ho8 hr7.drew hx
      have e48 := e47.trans e8
      cases hx with
      | slx _ _ _ _ _ r hρ hl =>
       obtain ⟨z, w', ρ', g1, g2, g3⟩ := grow_sim (ty := ty) hts hu hu2 hd2 hi hn hle p1 q1 p2 q2 p3 q3 rfl h18 ho (hr.of_same e48) (hf.of_same e48)
       exact ⟨z, w', ρ', g1, g2.after e48, g3⟩
      | sl0 _ _ _ _ ad hc hn' =>
       obtain rfl := hc mm rfl
       obtain ⟨z, w', ρ', g1, g2, g3⟩ := grow_sim (ty := ty) hts hu hu2 hd2 hi hn hle p1 q1 p2 q2 p3 q3 rfl h18 ho (hr.of_same e48) (hf.of_same e48)
       exact ⟨z, w', ρ', g1, g2.after e48, g3⟩
    | none =>
     obtain ⟨fits, s7, h15, h16, ho7, _, _⟩ := M.bind_did h14 ho
     obtain ⟨hq2, e7⟩ := ask_ok h15 ho7
     have e47 := e46.trans e7
     have hr7 := hr.of_same e47
     have hf7 := hf.of_same e47
     have hg7 : s7.heap.get id = some (.row c t') := by rw [e7.heap, e6.heap]; exact hg
     cases fits with
     | true =>
      have hle : off + (len + n) * i.size ≤ c.size := Nat.le_of_ble_eq_true hq2.symm
      obtain ⟨_, s8, h17, h18, ho8, _, _⟩ := M.bind_did h16 ho
      obtain ⟨hpos, e8⟩ := ob_ok h17 ho8
      have hpos' : 0 < i.size := Nat.le_of_ble_eq_true hpos
      have e48 := e47.trans e8
      have hr8 := hr.of_same e48
      obtain ⟨_, s9, h19, h20⟩ := M.bind_ok h18
      obtain ⟨rfl, rfl⟩ := pure_ok h20
      cases hx with
      | slw _ _ _ cc _ r hρ hl hs hc =>
       obtain ⟨arr, fr, _, _, hn', hcs, _⟩ := hr7.row hg7 hρ
       have hfit : len + n ≤ cc := by
        have : (len + n) * i.size ≤ cc * i.size := by rw [← hsz]; rw [← hsz] at hle; omega
        exact Nat.le_of_mul_le_mul_right this hpos'
       obtain ⟨ad, w', g1, g2, g3⟩ := writeCells_sim h19 ho hr8 (.ptr id (off + len * i.size) r hρ) (xs := xa.toList) (by simpa using k2.len) (fun j p q hp hq => k2.at_ j p q hp (by simpa using hq))
       injection g1 with g1
       injection g1 with g1
       subst g1
       refine ⟨_, w', ρ, run_append_fit hts hu hu2 hd2 hi hn hfit k1 (fun a ha => ?_) (fun h => by cases h), g3.after e48, .slw _ _ _ _ _ r hρ hfit hs hc⟩
       injection ha with ha
       subst ha
       rw [add_plain]; exact g2
      | sl0 _ _ _ _ ad hc hn' =>
       obtain ⟨r, hρ, hro⟩ := hn' rfl
       obtain ⟨arr, fr, _, _, hn', hcs, _⟩ := hr7.row hg7 hρ
       have : 0 < (0 + n) * i.size := Nat.mul_pos (by omega) hpos'
       omega
     | false =>
      have hle : ¬ off + (len + n) * i.size ≤ c.size := fun x => by
       have : (off + (len + n) * i.size).ble c.size = true := Nat.ble_eq_true_of_le x
       rw [this] at hq2; cases hq2
      try simp only at h16
      split at h16
      ·rename_i hc0
       simp only [Bool.and_eq_true] at hc0
       have hoff : off = 0 := Nat.eq_of_beq_eq_true hc0.1.1
       have hte : t' = e := Nat.eq_of_beq_eq_true hc0.1.2
       subst hoff
       subst hte
       obtain ⟨ys, s8, h17, h18, ho8, _, _⟩ := M.bind_did h16 ho
       obtain ⟨ya, p1, p2, p3, e8⟩ := sliceCells_sim h17 ho8 hr7.drew hx
       obtain ⟨ya0, p1', p2', p3', _⟩ := sliceCells_sim h17 ho8 hr7 hx
       have e48 := e47.trans e8
       obtain ⟨_, s9, h19, h20⟩ := M.bind_ok h18
       obtain ⟨_, kn, kh⟩ := kill_ok h19
       have hr9 : Rel E.P ρ m s9.heap.get w := (hr.of_same e48).kill kh
       have hf9 : Fresh ρ s9 s' := fun id hid => (hf.of_same e48) id ⟨by have := hid.1; omega, hid.2⟩
       have toS : ∀ {ρ' : Ren} {w' : World}, Post E.P ρ m s9 w ρ' m s' w' → Post E.P ρ m _ w ρ' m s' w' := fun g2 =>
        (Post.mk g2.ren (fun id hid => (g2.new id hid).imp_right fun x => ⟨by have := x.1; omega, x.2⟩) g2.mem g2.rel g2.fr (by have := g2.next; omega) : Post E.P ρ m s8 w _ m s' _).after e48
       cases hx with
       | slw _ _ _ cc _ r hρ hl hs hc =>
        by_cases hfit : len + n ≤ cc
        ·-- there is room after all
         obtain ⟨_, s10, h21, h22, ho10, _, _⟩ := M.bind_did h20 ho
         obtain ⟨_, e10⟩ := ob_ok h21 ho10
         obtain ⟨id', s11, h23, h24⟩ := M.bind_ok h22
         obtain ⟨rfl, rfl⟩ := pure_ok h24
         obtain ⟨n1, n2, n3⟩ := new_ok h23
         obtain ⟨arr, fr, ha, hes, han, hcs, hrr, hfr, hm⟩ := hr7.row hg7 hρ
         have hone : ∀ y ∈ xa.toList, y.oneCell' = true := by
          intro y hy
          obtain ⟨j, hj⟩ := List.getElem?_of_mem hy
          have hj' : xa[j]? = some y := by simpa using hj
          have hlt := (Array.getElem?_eq_some_iff.1 hj').1
          have hv : xs[j]? = some (xs[j]'(by rw [k2.len]; exact hlt)) := List.getElem?_eq_getElem _
          exact (k2.at_ j _ _ hv hj').oneCell (List.all_eq_true.1 hc0.2 _ (List.getElem_mem _))
         have hsz' : len * i.size + 0 + xa.toList.length ≤ arr.size := by
          have h1 : xa.size = n * i.size := by rw [← k2.len]; exact k3
          have h2 : (len + n) * i.size ≤ cc * sz := by rw [hsz]; exact Nat.mul_le_mul_right _ hfit
          rw [Nat.add_mul] at h2
          simp only [Array.length_toList]; omega
         obtain ⟨arr', g1, g2, g3⟩ := run_storeCells E.P r.b (len * i.size) t' fr xa.toList 0 w arr ha hfr.out hsz' hone
         have hys : ys = c.sub 0 (len * i.size) := by
          obtain ⟨_, u1⟩ := sameSz_ok h17
          obtain ⟨b2, u2, u3, u4⟩ := M.bind_ok u1
          obtain ⟨u5, u6⟩ := get_ok u3
          obtain ⟨c2, t2', u7, u8⟩ := row_ok u4
          rw [hg7] at u5
          injection u5 with u5
          rw [u7] at u5
          injection u5 with u5 _
          obtain ⟨_, u9, u10, u11⟩ := M.bind_ok u8
          obtain ⟨_, u12, u13, u14⟩ := M.bind_ok u11
          obtain ⟨u15, _⟩ := pure_ok u14
          rw [u15, u5]
         have hcl : len * i.size ≤ c.size := by
          obtain ⟨_, u1⟩ := sameSz_ok h17
          obtain ⟨b2, u2, u3, u4, uo2, _, _⟩ := M.bind_did u1 ho8
          obtain ⟨u5, u6⟩ := get_ok u3
          obtain ⟨c2, t2', u7, u8⟩ := row_ok u4
          rw [hg7] at u5
          injection u5 with u5
          rw [u7] at u5
          injection u5 with u5 _
          obtain ⟨_, u9, u10, u11, uo3, _, _⟩ := M.bind_did u8 ho8
          obtain ⟨_, u12, u13, u14, uo4, _, _⟩ := M.bind_did u11 ho8
          obtain ⟨u15, _⟩ := ob_ok u13 uo4
          have := Nat.le_of_ble_eq_true u15
          rw [← u5] at this
          omega
         have hfresh : ρ id' = none := hf9 id' ⟨by have := e10.next; omega, by have := e10.next; omega⟩
         have hbr : BR E.P ρ m r (.row (.l (ys ++ xs)) t') (.cells arr' t' fr) := by
          refine .row r (.l (ys ++ xs)) t' arr' fr hes (by rw [g2]; exact han) ?_ ?_ (by rw [g2]; exact hfr)
          ·rw [g2, han, ← hc, ← hs]
           simp only [Cont.size, List.length_append, p3', q3]
           rw [← Nat.add_mul]
           have : (len + n) * i.size ≤ cc * r.s := by rw [hs, hsz]; exact Nat.mul_le_mul_right _ hfit
           omega
          ·intro j z hj hz
           simp only [Cont.size, List.length_append, p3', q3] at hj
           simp only [Cont.at, nth_get]
           rw [g3 j] at hz
           by_cases c1 : j < len * i.size
           ·have c2 : ¬ (len * i.size + 0 ≤ j ∧ j < len * i.size + 0 + xa.toList.length) := by omega
            rw [if_neg c2] at hz
            rw [List.getElem?_append_left (by rw [p3']; exact c1), hys, Cont.sub_get (by omega) c1, Nat.zero_add]
            exact hrr j z (by omega) hz
           ·have hxl : xa.toList.length = n * i.size := by
             have : xa.size = n * i.size := by rw [← k2.len]; exact k3
             simpa using this
            have c2 : len * i.size + 0 ≤ j ∧ j < len * i.size + 0 + xa.toList.length := by omega
            rw [if_pos c2] at hz
            rw [List.getElem?_append_right (by rw [p3']; omega), p3']
            have hv : xs[j - len * i.size]? = some (xs[j - len * i.size]'(by rw [k3]; omega)) := List.getElem?_eq_getElem _
            rw [hv]
            exact k2.at_ _ _ _ hv (by simpa using hz)
         have hr8 := hr.of_same e48
         have hg8 : s8.heap.get id = some (.row c t') := by rw [e8.heap]; exact hg7
         have hu1 := hr8.upd (h' := fun j => if j = id then some (.row (.l (ys ++ xs)) t') else s8.heap.get j) hg8 hρ hbr (fun j => rfl)
         have hu2' := hu1.rename (id := id) (id' := id') (h' := s'.heap.get) (b := .row (.l (ys ++ xs)) t') (by simp) hρ hfresh (fun j => by
          rw [n3 j, e10.heap, kh j]
          by_cases c1 : j = id'
          ·simp [c1]
          ·by_cases c2 : j = id
           ·simp [c1, c2]
           ·simp [c1, c2])
         refine ⟨_, _, ρ.put id' r, run_append_fit hts hu hu2 hd2 hi hn hfit k1 (w' := World.upd w r.b (.cells arr' t' fr)) (fun a ha => ?_) (fun h => by cases h), toS ⟨RenLe.put hfresh, fun j hj => ?_, fun _ _ h => h, hu2', World.upd_fr _ _ _, by have := e10.next; omega⟩, .slw id' 0 _ _ _ r (by simp [Ren.put]) hfit (hs.trans hsz) (by rw [← hsz]; exact hc)⟩
         ·injection ha with ha
          subst ha
          rw [add_plain, Nat.zero_add]; exact g1
         ·unfold Ren.put at hj
          by_cases c1 : j = id'
          ·exact .inr ⟨by have := e10.next; omega, by have := e10.next; omega⟩
          ·simp only [c1, if_false] at hj
           exact .inl hj
        ·obtain ⟨z, w', ρ', g1, g2, g3⟩ := grow_sim (ty := ty) hts hu hu2 hd2 hi hn hfit p1 q1 p2 q2 p3 q3 rfl h20 ho hr9 hf9
         exact ⟨z, w', ρ', g1, toS g2, g3⟩
       | sl0 _ _ _ _ ad hc hn' =>
        obtain ⟨z, w', ρ', g1, g2, g3⟩ := grow_sim (ty := ty) hts hu hu2 hd2 hi hn (by omega) p1 q1 p2 q2 p3 q3 rfl h20 ho hr9 hf9
        exact ⟨z, w', ρ', g1, toS g2, g3⟩
      ·exact (fail_ok h16).elim
   ·exact (fail_ok h10).elim
 | _ => rw [hd] at h2; exact (fail_ok h2).elim
end
end Go.Am
set_option linter.unusedSimpArgs false
set_option linter.unusedVariables false
namespace Go.Am
open Go
variable {E : Env}
section
variable {ρ : Ren} {m : Mem} {s s' : St} {w : World} {v : AVal}
theorem intOp_sim {P : Program} {op : BinOp} {k : IntKind} {a b : Int} (h : (intOp op k a b).run s = .ok v s') (ho : OkObs s') (hr : Rel P ρ m s.heap.get w) (t : TypeId) :
    Out P ρ m s w s' v ((Go.binOp op t (.int k a) (.int k b)).run P w) := by
  cases op <;> simp only [intOp] at h
  case quo =>
    obtain ⟨_, s1, h1, h2, ho1, _, _⟩ := M.bind_did h ho
    obtain ⟨h3, e⟩ := ob_ok h1 ho1
    obtain ⟨rfl, rfl⟩ := pure_ok h2
    have hb : ¬ b = 0 := of_decide_eq_true h3
    simp only [Go.binOp, ne_eq, not_true_eq_false, if_false, Op.intDiv, hb, Sem.run_pure]
    exact .same hr e (.int _ _)
  case rem =>
    obtain ⟨_, s1, h1, h2, ho1, _, _⟩ := M.bind_did h ho
    obtain ⟨h3, e⟩ := ob_ok h1 ho1
    obtain ⟨rfl, rfl⟩ := pure_ok h2
    have hb : ¬ b = 0 := of_decide_eq_true h3
    simp only [Go.binOp, ne_eq, not_true_eq_false, if_false, Op.intDiv, hb, Sem.run_pure]
    exact .same hr e (.int _ _)
  case shl => exact (fail_ok h).elim
  case shr => exact (fail_ok h).elim
  all_goals
    obtain ⟨rfl, rfl⟩ := pure_ok h
    simp only [Go.binOp, ne_eq, not_true_eq_false, if_false, Op.intArith, Op.intBits, Op.intCmp, Sem.run_pure]
    first
      | exact .same hr (.refl _) (.int _ _)
      | exact .same hr (.refl _) (.bool _)
theorem shiftOp_sim {P : Program} {op : BinOp} {k k' : IntKind} {a b : Int} (h : (shiftOp op k a b).run s = .ok v s') (ho : OkObs s') (hr : Rel P ρ m s.heap.get w) (t : TypeId) :
    Out P ρ m s w s' v ((Go.binOp op t (.int k a) (.int k' b)).run P w) := by
  obtain ⟨_, s1, h1, h2, ho1, _, _⟩ := M.bind_did h ho
  obtain ⟨h3, e⟩ := ob_ok h1 ho1
  have hb : ¬ b < 0 := by have := of_decide_eq_true h3; omega
  cases op <;> simp only at h2
  case shl =>
    obtain ⟨rfl, rfl⟩ := pure_ok h2
    simp only [Go.binOp, Op.shift, hb, if_false, Sem.run_pure]
    exact .same hr e (.int _ _)
  case shr =>
    obtain ⟨rfl, rfl⟩ := pure_ok h2
    simp only [Go.binOp, Op.shift, hb, if_false, Sem.run_pure]
    exact .same hr e (.int _ _)
  all_goals exact (fail_ok h2).elim
theorem toList_eq (l : List UInt8) : (⟨⟨l⟩⟩ : ByteArray).toList = l := by
  rw [ByteArray.toList_eq]
theorem strOp_sim {P : Program} {op : BinOp} {x y : List UInt8} (h : (strOp op x y).run s = .ok v s') (ho : OkObs s') (hr : Rel P ρ m s.heap.get w) (t : TypeId) :
    Out P ρ m s w s' v ((Go.binOp op t (.string ⟨⟨x⟩⟩) (.string ⟨⟨y⟩⟩)).run P w) := by
  cases op <;> simp only [strOp] at h
  case add =>
    obtain ⟨_, s1, h1, h2, ho1, _, _⟩ := M.bind_did h ho
    obtain ⟨h3, e⟩ := ob_ok h1 ho1
    obtain ⟨rfl, rfl⟩ := pure_ok h2
    have h4 := of_decide_eq_true h3
    have hsz : ¬ ((((⟨⟨x⟩⟩ : ByteArray).size + (⟨⟨y⟩⟩ : ByteArray).size : Nat) : Int) > IntKind.i64.max) := by
      have e1 : (⟨⟨x⟩⟩ : ByteArray).size = x.length := rfl
      have e2 : (⟨⟨y⟩⟩ : ByteArray).size = y.length := rfl
      have e3 : IntKind.i64.max = 9223372036854775807 := rfl
      rw [e1, e2, e3]; omega
    have happ : (⟨⟨x⟩⟩ ++ ⟨⟨y⟩⟩ : ByteArray) = ⟨⟨x ++ y⟩⟩ := by
      have : (⟨⟨x⟩⟩ ++ ⟨⟨y⟩⟩ : ByteArray).data = ⟨x ++ y⟩ := by rw [ByteArray.data_append]; simp
      cases hh : (⟨⟨x⟩⟩ ++ ⟨⟨y⟩⟩ : ByteArray) with
      | mk d => rw [hh] at this; simp only at this; rw [this]
    simp only [Go.binOp, Op.stringOp, hsz, if_false, Sem.run_pure, happ]
    exact .same hr e (.str _)
  all_goals
    first
      | exact (fail_ok h).elim
      | (obtain ⟨rfl, rfl⟩ := pure_ok h
         simp only [Go.binOp, Op.stringOp, Sem.run_pure, toList_eq]
         exact .same hr (.refl _) (.bool _))
theorem boolOf_ok {a : AVal} {b : Bool} (h : (boolOf a).run s = .ok b s') {x : Value} (hx : R ρ m a x) : s' = s ∧ x = .bool b := by
  unfold boolOf at h
  split at h
  · obtain ⟨rfl, rfl⟩ := pure_ok h; exact ⟨rfl, hx.bool_inv⟩
  · obtain ⟨rfl, rfl⟩ := pure_ok h; exact ⟨rfl, hx.blit_inv⟩
  · exact (fail_ok h).elim
theorem nilPtr_ok {a : AVal} {b : Bool} (h : (nilPtr a).run s = .ok b s') {x : Value} (hx : R ρ m a x) : s' = s ∧ ((b = true ∧ x = .pointer none) ∨ (b = false ∧ ∃ ad, x = .pointer (some ad))) := by
  unfold nilPtr at h
  split at h
  · obtain ⟨rfl, rfl⟩ := pure_ok h; cases hx; exact ⟨rfl, .inl ⟨rfl, rfl⟩⟩
  · obtain ⟨rfl, rfl⟩ := pure_ok h; cases hx; exact ⟨rfl, .inr ⟨rfl, _, rfl⟩⟩
  · obtain ⟨rfl, rfl⟩ := pure_ok h; cases hx; exact ⟨rfl, .inr ⟨rfl, _, rfl⟩⟩
  · exact (fail_ok h).elim
theorem nilFn_ok {a : AVal} {b : Bool} (h : (nilFn a).run s = .ok b s') {x : Value} (hx : R ρ m a x) : s' = s ∧ ((b = true ∧ x = .nilFunc) ∨ (b = false ∧ ∃ f p q, x = .func f p q)) := by
  unfold nilFn at h
  split at h
  · obtain ⟨rfl, rfl⟩ := pure_ok h; cases hx; exact ⟨rfl, .inl ⟨rfl, rfl⟩⟩
  · obtain ⟨rfl, rfl⟩ := pure_ok h; cases hx; exact ⟨rfl, .inr ⟨rfl, _, _, _, rfl⟩⟩
  · exact (fail_ok h).elim
theorem nilSl_ok {a : AVal} {b : Bool} (h : (nilSl a).run s = .ok b s') {x : Value} (hx : R ρ m a x) : s' = s ∧ ((b = true ∧ x = .slice none 0 0) ∨ (b = false ∧ ∃ ad l c, x = .slice (some ad) l c)) := by
  unfold nilSl at h
  split at h
  · obtain ⟨rfl, rfl⟩ := pure_ok h; cases hx; exact ⟨rfl, .inl ⟨rfl, rfl⟩⟩
  · obtain ⟨rfl, rfl⟩ := pure_ok h; cases hx <;> exact ⟨rfl, .inr ⟨rfl, _, _, _, rfl⟩⟩
  · obtain ⟨rfl, rfl⟩ := pure_ok h; cases hx <;> exact ⟨rfl, .inr ⟨rfl, _, _, _, rfl⟩⟩
  · exact (fail_ok h).elim
theorem nilMap_ok {a : AVal} {b : Bool} (h : (nilMap a).run s = .ok b s') {x : Value} (hx : R ρ m a x) : s' = s ∧ ((b = true ∧ x = .map none) ∨ (b = false ∧ ∃ r, x = .map (some r))) := by
  unfold nilMap at h
  split at h
  · obtain ⟨rfl, rfl⟩ := pure_ok h; cases hx; exact ⟨rfl, .inl ⟨rfl, rfl⟩⟩
  · obtain ⟨rfl, rfl⟩ := pure_ok h; cases hx; exact ⟨rfl, .inr ⟨rfl, _, rfl⟩⟩
  · exact (fail_ok h).elim
theorem eqAt_ok : ∀ (l : List (QE E.P)) (t : Nat), eqAt E l t = true → E.P.stoodInHeld t = false ∧ E.P.eqGuardType E.P.depth t = false
  | [], _, h => by cases h
  | q :: l, t, h => by
    simp only [eqAt, Bool.or_eq_true] at h
    rcases h with h | h
    · have := Nat.eq_of_beq_eq_true h
      rw [← this]
      exact ⟨q.held, q.guard⟩
    · exact eqAt_ok l t h
def eqElems (d : Nat) (e : TypeId) (n : Nat) (xs ys : Array Value) : List Nat → Sem Bool
  | [] => pure true
  | i :: l => do
      let a ← Go.part e xs (i * n)
      let b ← Go.part e ys (i * n)
      let r ← Op.equalIn d e a b
      if (!r) = true then pure false else eqElems d e n xs ys l
theorem run_equalIn_array {P : Program} (w : World) (d : Nat) (t : TypeId) (xs ys : Array Value) {n : Nat} {e : TypeId} {z : Nat} (ht : P.underlying t = some (.array n e)) (hz : ∀ {w : World}, (Go.sizeOf e).run P w = .ok z w) :
    (Op.equalIn (d + 1) t (.agg xs) (.agg ys)).run P w = (eqElems d e z xs ys (List.range n)).run P w := by
  simp only [Op.equalIn, Sem.run_bind, run_underlying ht, Result.andThen_ok, hz]
  rw [Std.Legacy.Range.forIn_eq_forIn_range']
  simp only [Std.Legacy.Range.size, Nat.sub_zero, Nat.add_sub_cancel, Nat.div_one, ← List.range_eq_range']
  generalize List.range n = fs
  clear ht
  induction fs generalizing w with
  | nil => simp [eqElems]
  | cons f fs ih =>
    simp only [List.forIn_cons, eqElems, Sem.run_bind, Sem.run_ite]
    generalize (Go.part e xs (f * z)).run P w = r1
    cases r1 with
    | ok a w1 =>
      simp only [Result.andThen_ok]
      generalize (Go.part e ys (f * z)).run P w1 = r2
      cases r2 with
      | ok b w2 =>
        simp only [Result.andThen_ok]
        generalize (Op.equalIn d e a b).run P w2 = r3
        cases r3 with
        | ok r w3 =>
          cases r
          · simp only [Result.andThen_ok, Bool.not_false, if_true, Sem.run_pure]
          · simp only [Result.andThen_ok, Bool.not_true, Bool.false_eq_true, if_false, Sem.run_pure]
            exact ih w3
        | halt x w3 => simp [Result.andThen]
      | halt x w2 => simp [Result.andThen]
    | halt x w1 => simp [Result.andThen]
theorem equal_sim : ∀ (d k : Nat) {t : TypeId} {a b : AVal} {c : Bool} {s s' : St}, (equal E d t a b).run s = .ok c s' → OkObs s' → ∀ {x y : Value}, R ρ m a x → R ρ m b y → ∀ w : World,
    Same s s' ∧ (Op.equalIn (d + k) t x y).run E.P w = .ok c w := by
  intro d
  induction d with
  | zero => intro k t a b c s s' h; exact (fail_ok h).elim
  | succ d ih =>
    intro k t a b c s s' h ho x y hx hy w
    obtain ⟨u, s1, h1, h2⟩ := M.bind_ok h
    obtain ⟨⟨i, hi, rfl⟩, rfl⟩ := und_ok h1
    have hu := hi.run_und (w := w)
    have ek : d + 1 + k = (d + k) + 1 := by omega
    rw [ek]
    cases hd : i.desc with
    | bool =>
      rw [hd] at h2 hu
      obtain ⟨p, s2, h3, h4⟩ := M.bind_ok h2
      obtain ⟨rfl, rfl⟩ := boolOf_ok h3 hx
      obtain ⟨q, s3, h5, h6⟩ := M.bind_ok h4
      obtain ⟨rfl, rfl⟩ := boolOf_ok h5 hy
      obtain ⟨rfl, rfl⟩ := pure_ok h6
      exact ⟨.refl _, by simp only [Op.equalIn, Sem.run_bind, hu, Result.andThen_ok, Sem.run_pure]⟩
    | int kk =>
      rw [hd] at h2 hu
      simp only at h2
      split at h2
      · split at h2
        · rename_i k1 n1 _ k2 n2
          split at h2
          · rename_i hk
            have hk' : k1 = k2 := of_decide_eq_true hk
            subst hk'
            obtain ⟨rfl, rfl⟩ := pure_ok h2
            obtain rfl := hx.int_inv
            obtain rfl := hy.int_inv
            exact ⟨.refl _, by simp only [Op.equalIn, Sem.run_bind, hu, Result.andThen_ok, if_true, Sem.run_pure]⟩
          · exact (fail_ok h2).elim
        · exact (fail_ok h2).elim
      · exact (fail_ok h2).elim
    | string =>
      rw [hd] at h2 hu
      obtain ⟨l, rfl, h3⟩ := str_ok h2
      obtain ⟨l', rfl, h4⟩ := str_ok h3
      obtain ⟨rfl, rfl⟩ := pure_ok h4
      obtain rfl := hx.str_inv
      obtain rfl := hy.str_inv
      refine ⟨.refl _, ?_⟩
      have : ((⟨⟨l⟩⟩ : ByteArray) == ⟨⟨l'⟩⟩) = (l == l') := by
        rw [beq_toListBytes, toList_eq, toList_eq]
      simp only [Op.equalIn, Sem.run_bind, hu, Result.andThen_ok, Sem.run_pure, this]
    | pointer e =>
      rw [hd] at h2 hu
      obtain ⟨p, s2, h3, h4⟩ := M.bind_ok h2
      obtain ⟨rfl, hp⟩ := nilPtr_ok h3 hx
      obtain ⟨q, s3, h5, h6⟩ := M.bind_ok h4
      obtain ⟨rfl, hq⟩ := nilPtr_ok h5 hy
      rcases hp with ⟨rfl, rfl⟩ | ⟨rfl, ad, rfl⟩
      · obtain ⟨rfl, rfl⟩ := pure_ok h6
        rcases hq with ⟨rfl, rfl⟩ | ⟨rfl, ad, rfl⟩
        · exact ⟨.refl _, by simp only [Op.equalIn, Sem.run_bind, hu, Result.andThen_ok, Sem.run_pure]; rfl⟩
        · exact ⟨.refl _, by simp only [Op.equalIn, Sem.run_bind, hu, Result.andThen_ok, Sem.run_pure]; rfl⟩
      · rcases hq with ⟨rfl, rfl⟩ | ⟨rfl, ad', rfl⟩
        · obtain ⟨rfl, rfl⟩ := pure_ok h6
          exact ⟨.refl _, by simp only [Op.equalIn, Sem.run_bind, hu, Result.andThen_ok, Sem.run_pure]; rfl⟩
        · exact (fail_ok h6).elim
    | func a1 b1 c1 =>
      rw [hd] at h2 hu
      obtain ⟨p, s2, h3, h4⟩ := M.bind_ok h2
      obtain ⟨rfl, hp⟩ := nilFn_ok h3 hx
      obtain ⟨q, s3, h5, h6⟩ := M.bind_ok h4
      obtain ⟨rfl, hq⟩ := nilFn_ok h5 hy
      rcases hp with ⟨rfl, rfl⟩ | ⟨rfl, f, pp, qq, rfl⟩
      · obtain ⟨rfl, rfl⟩ := pure_ok h6
        rcases hq with ⟨rfl, rfl⟩ | ⟨rfl, f, pp, qq, rfl⟩
        · exact ⟨.refl _, by simp only [Op.equalIn, Sem.run_bind, hu, Result.andThen_ok, Sem.run_pure, Bool.and_self]⟩
        · exact ⟨.refl _, by simp only [Op.equalIn, Sem.run_bind, hu, Result.andThen_ok, Sem.run_pure, Bool.and_false]⟩
      · rcases hq with ⟨rfl, rfl⟩ | ⟨rfl, f', pp', qq', rfl⟩
        · obtain ⟨rfl, rfl⟩ := pure_ok h6
          exact ⟨.refl _, by simp only [Op.equalIn, Sem.run_bind, hu, Result.andThen_ok, Sem.run_pure]; rfl⟩
        · exact (fail_ok h6).elim
    | slice e =>
      rw [hd] at h2 hu
      obtain ⟨p, s2, h3, h4⟩ := M.bind_ok h2
      obtain ⟨rfl, hp⟩ := nilSl_ok h3 hx
      obtain ⟨q, s3, h5, h6⟩ := M.bind_ok h4
      obtain ⟨rfl, hq⟩ := nilSl_ok h5 hy
      rcases hp with ⟨rfl, rfl⟩ | ⟨rfl, ad, l1, c1, rfl⟩
      · obtain ⟨rfl, rfl⟩ := pure_ok h6
        rcases hq with ⟨rfl, rfl⟩ | ⟨rfl, ad, l1, c1, rfl⟩
        · exact ⟨.refl _, by simp only [Op.equalIn, Sem.run_bind, hu, Result.andThen_ok, Sem.run_pure]; rfl⟩
        · exact ⟨.refl _, by simp only [Op.equalIn, Sem.run_bind, hu, Result.andThen_ok, Sem.run_pure]; rfl⟩
      · rcases hq with ⟨rfl, rfl⟩ | ⟨rfl, ad', l2, c2, rfl⟩
        · obtain ⟨rfl, rfl⟩ := pure_ok h6
          exact ⟨.refl _, by simp only [Op.equalIn, Sem.run_bind, hu, Result.andThen_ok, Sem.run_pure]; rfl⟩
        · exact (fail_ok h6).elim
    | map k1 e1 =>
      rw [hd] at h2 hu
      obtain ⟨p, s2, h3, h4⟩ := M.bind_ok h2
      obtain ⟨rfl, hp⟩ := nilMap_ok h3 hx
      obtain ⟨q, s3, h5, h6⟩ := M.bind_ok h4
      obtain ⟨rfl, hq⟩ := nilMap_ok h5 hy
      rcases hp with ⟨rfl, rfl⟩ | ⟨rfl, r, rfl⟩
      · obtain ⟨rfl, rfl⟩ := pure_ok h6
        rcases hq with ⟨rfl, rfl⟩ | ⟨rfl, r, rfl⟩
        · exact ⟨.refl _, by simp only [Op.equalIn, Sem.run_bind, hu, Result.andThen_ok, Sem.run_pure]; rfl⟩
        · exact ⟨.refl _, by simp only [Op.equalIn, Sem.run_bind, hu, Result.andThen_ok, Sem.run_pure]; rfl⟩
      · rcases hq with ⟨rfl, rfl⟩ | ⟨rfl, r', rfl⟩
        · obtain ⟨rfl, rfl⟩ := pure_ok h6
          exact ⟨.refl _, by simp only [Op.equalIn, Sem.run_bind, hu, Result.andThen_ok, Sem.run_pure]; rfl⟩
        · exact (fail_ok h6).elim
    | struct fs =>
      rw [hd] at h2 hu
      simp only at h2
      split at h2
      · rename_i hq
        obtain ⟨hheld, _⟩ := eqAt_ok _ _ hq
        obtain ⟨l, rfl, h3⟩ := agg_ok h2
        obtain ⟨l', rfl, h4⟩ := agg_ok h3
        obtain ⟨xs, rfl, hxs⟩ := hx.agg_inv
        obtain ⟨ys, rfl, hys⟩ := hy.agg_inv
        have hfs : E.P.fieldsOf t = fs := by simp [Program.fieldsOf, hi.und, hd]
        have hut : E.P.underlying t = some (.struct (E.P.fieldsOf t)) := by rw [hfs, hi.und, hd]
        rw [run_equalIn_struct w (d + k) t xs ys hut hheld, hfs]
        clear h1 h2 h3 h hx hy
        revert c s1 s'
        induction fs.toList with
        | nil =>
          intro c s' ho s1 h
          obtain ⟨rfl, rfl⟩ := pure_ok h
          exact ⟨.refl _, rfl⟩
        | cons f fl ihl =>
          intro c s' ho s1 h
          obtain ⟨p, s2, h5, h6, ho2, _, _⟩ := M.bind_did h ho
          obtain ⟨q, s3, h7, h8, ho3, _, _⟩ := M.bind_did h6 ho
          obtain ⟨rfl, rfl⟩ := pure_ok h8
          obtain ⟨e2, r2⟩ := ihl ho3 _ h7
          simp only at h5
          split at h5
          · rename_i hn
            have hn' : f.name = "_" := of_decide_eq_true hn
            obtain ⟨rfl, rfl⟩ := pure_ok h5
            refine ⟨e2, ?_⟩
            simp only [Op.eqFields, hn', ne_eq, not_true_eq_false, if_false, r2, Bool.true_and]
          · rename_i hn
            have hn' : ¬ f.name = "_" := of_decide_eq_false hn
            obtain ⟨a1, s4, k1, k2⟩ := M.bind_ok h5
            obtain ⟨rfl, xa, k3, k4⟩ := part_sim k1 hxs w
            obtain ⟨b1, s5, k5, k6⟩ := M.bind_ok k2
            obtain ⟨rfl, ya, k7, k8⟩ := part_sim k5 hys w
            obtain ⟨e1, r1⟩ := ih k k6 ho2 k4 k8 w
            refine ⟨e1.trans e2, ?_⟩
            simp only [Op.eqFields, ne_eq, hn', not_false_eq_true, if_true, Sem.run_bind, k3, k7, r1, Result.andThen_ok]
            cases p
            · simp
            · simp [r2]
      · exact (fail_ok h2).elim
    | array n e =>
      rw [hd] at h2 hu
      simp only at h2
      split at h2
      · obtain ⟨l, rfl, h3⟩ := agg_ok h2
        obtain ⟨l', rfl, h4⟩ := agg_ok h3
        obtain ⟨xs, rfl, hxs⟩ := hx.agg_inv
        obtain ⟨ys, rfl, hys⟩ := hy.agg_inv
        obtain ⟨z, s2, h5, h6⟩ := M.bind_ok h4
        obtain ⟨⟨j, hj, rfl⟩, rfl⟩ := sizeOf_ok h5
        rw [run_equalIn_array w (d + k) t xs ys (by rw [hi.und, hd]) hj.run_size]
        clear h1 h2 h3 h4 h5 h hx hy
        revert c s2 s'
        induction List.range n with
        | nil =>
          intro c s' ho s2 h
          obtain ⟨rfl, rfl⟩ := pure_ok h
          exact ⟨.refl _, rfl⟩
        | cons q ql ihl =>
          intro c s' ho s2 h
          obtain ⟨p, s3, h5, h6, ho2, _, _⟩ := M.bind_did h ho
          obtain ⟨q1, s4, h7, h8, ho3, _, _⟩ := M.bind_did h6 ho
          obtain ⟨rfl, rfl⟩ := pure_ok h8
          obtain ⟨e2, r2⟩ := ihl ho3 _ h7
          obtain ⟨a1, s5, k1, k2⟩ := M.bind_ok h5
          obtain ⟨rfl, xa, k3, k4⟩ := part_sim k1 hxs w
          obtain ⟨b1, s6, k5, k6⟩ := M.bind_ok k2
          obtain ⟨rfl, ya, k7, k8⟩ := part_sim k5 hys w
          obtain ⟨e1, r1⟩ := ih k k6 ho2 k4 k8 w
          refine ⟨e1.trans e2, ?_⟩
          simp only [eqElems, Sem.run_bind, k3, k7, r1, Result.andThen_ok]
          cases p
          · simp
          · simp [r2]
      · exact (fail_ok h2).elim
    | _ => rw [hd] at h2; exact (fail_ok h2).elim
end
end Go.Am
set_option linter.unusedSimpArgs false
set_option linter.unusedVariables false
namespace Go.Am
open Go
variable {E : Env}
section
variable {ρ : Ren} {m : Mem} {s s' : St} {w : World} {v : AVal}
inductive Cmp (P : Program) (t : TypeId) : Value → Value → Prop
  | bool (a b : Bool) : Cmp P t (.bool a) (.bool b)
  | int (k : IntKind) (a b : Int) : Cmp P t (.int k a) (.int k b)
  | str (a b : ByteArray) : Cmp P t (.string a) (.string b)
  | ptr (a b : Option Addr) : Cmp P t (.pointer a) (.pointer b)
  | fnn : Cmp P t .nilFunc .nilFunc
  | fnf (f : Fn) (a b : Array Value) : Cmp P t .nilFunc (.func f a b)
  | ffn (f : Fn) (a b : Array Value) : Cmp P t (.func f a b) .nilFunc
  | sl (a b : Option Addr) (l c l' c' : Nat) : Cmp P t (.slice a l c) (.slice b l' c')
  | mp (a b : Option Nat) : Cmp P t (.map a) (.map b)
  | agg (a b : Array Value) (h : P.eqGuardType P.depth t = false) : Cmp P t (.agg a) (.agg b)
theorem equal_cmp {d : Nat} {t : TypeId} {a b : AVal} {c : Bool} (h : (equal E (d + 1) t a b).run s = .ok c s') {x y : Value} (hx : R ρ m a x) (hy : R ρ m b y) : Cmp E.P t x y := by
  obtain ⟨u, s1, h1, h2⟩ := M.bind_ok h
  cases u with
  | bool =>
    obtain ⟨p, s2, h3, h4⟩ := M.bind_ok h2
    obtain ⟨rfl, rfl⟩ := boolOf_ok h3 hx
    obtain ⟨q, s3, h5, h6⟩ := M.bind_ok h4
    obtain ⟨rfl, rfl⟩ := boolOf_ok h5 hy
    exact .bool _ _
  | int kk =>
    simp only at h2
    split at h2
    · split at h2
      · rename_i k1 n1 _ k2 n2
        split at h2
        · rename_i hk
          have hk' : k1 = k2 := of_decide_eq_true hk
          subst hk'
          obtain rfl := hx.int_inv
          obtain rfl := hy.int_inv
          exact .int _ _ _
        · exact (fail_ok h2).elim
      · exact (fail_ok h2).elim
    · exact (fail_ok h2).elim
  | string =>
    obtain ⟨l, rfl, h3⟩ := str_ok h2
    obtain ⟨l', rfl, h4⟩ := str_ok h3
    obtain rfl := hx.str_inv
    obtain rfl := hy.str_inv
    exact .str _ _
  | pointer e =>
    obtain ⟨p, s2, h3, h4⟩ := M.bind_ok h2
    obtain ⟨rfl, hp⟩ := nilPtr_ok h3 hx
    obtain ⟨q, s3, h5, h6⟩ := M.bind_ok h4
    obtain ⟨rfl, hq⟩ := nilPtr_ok h5 hy
    rcases hp with ⟨rfl, rfl⟩ | ⟨rfl, ad, rfl⟩ <;> rcases hq with ⟨rfl, rfl⟩ | ⟨rfl, ad', rfl⟩ <;> exact .ptr _ _
  | func a1 b1 c1 =>
    obtain ⟨p, s2, h3, h4⟩ := M.bind_ok h2
    obtain ⟨rfl, hp⟩ := nilFn_ok h3 hx
    obtain ⟨q, s3, h5, h6⟩ := M.bind_ok h4
    obtain ⟨rfl, hq⟩ := nilFn_ok h5 hy
    rcases hp with ⟨rfl, rfl⟩ | ⟨rfl, f, pp, qq, rfl⟩
    · rcases hq with ⟨rfl, rfl⟩ | ⟨rfl, f, pp, qq, rfl⟩
      · exact .fnn
      · exact .fnf _ _ _
    · rcases hq with ⟨rfl, rfl⟩ | ⟨rfl, f', pp', qq', rfl⟩
      · exact .ffn _ _ _
      · exact (fail_ok h6).elim
  | slice e =>
    obtain ⟨p, s2, h3, h4⟩ := M.bind_ok h2
    obtain ⟨rfl, hp⟩ := nilSl_ok h3 hx
    obtain ⟨q, s3, h5, h6⟩ := M.bind_ok h4
    obtain ⟨rfl, hq⟩ := nilSl_ok h5 hy
    rcases hp with ⟨rfl, rfl⟩ | ⟨rfl, ad, l1, c1, rfl⟩ <;> rcases hq with ⟨rfl, rfl⟩ | ⟨rfl, ad', l2, c2, rfl⟩ <;> exact .sl _ _ _ _ _ _
  | map k1 e1 =>
    obtain ⟨p, s2, h3, h4⟩ := M.bind_ok h2
    obtain ⟨rfl, hp⟩ := nilMap_ok h3 hx
    obtain ⟨q, s3, h5, h6⟩ := M.bind_ok h4
    obtain ⟨rfl, hq⟩ := nilMap_ok h5 hy
    rcases hp with ⟨rfl, rfl⟩ | ⟨rfl, r, rfl⟩ <;> rcases hq with ⟨rfl, rfl⟩ | ⟨rfl, r', rfl⟩ <;> exact .mp _ _
  | struct fs =>
    simp only at h2
    split at h2
    · rename_i hq
      obtain ⟨_, hgd⟩ := eqAt_ok _ _ hq
      obtain ⟨l, rfl, h3⟩ := agg_ok h2
      obtain ⟨l', rfl, h4⟩ := agg_ok h3
      obtain ⟨xs, rfl, hxs⟩ := hx.agg_inv
      obtain ⟨ys, rfl, hys⟩ := hy.agg_inv
      exact .agg _ _ hgd
    · exact (fail_ok h2).elim
  | array n e =>
    simp only at h2
    split at h2
    · rename_i hq
      obtain ⟨_, hgd⟩ := eqAt_ok _ _ hq
      obtain ⟨l, rfl, h3⟩ := agg_ok h2
      obtain ⟨l', rfl, h4⟩ := agg_ok h3
      obtain ⟨xs, rfl, hxs⟩ := hx.agg_inv
      obtain ⟨ys, rfl, hys⟩ := hy.agg_inv
      exact .agg _ _ hgd
    · exact (fail_ok h2).elim
  | _ => exact (fail_ok h2).elim
theorem Cmp.guard {P : Program} {t : TypeId} {x y : Value} (h : Cmp P t x y) (op : BinOp) (a b : Operand) : (eqGuard op t a b x y).run P w = .ok () w := by
  cases h with
  | agg xs ys hg => exact run_eqGuard_agg w op t a b xs ys hg
  | ptr p q => cases op <;> cases p <;> cases q <;> rfl
  | _ => cases op <;> rfl
theorem guard_int {P : Program} (op : BinOp) (t : TypeId) (a b : Operand) (k k' : IntKind) (x y : Int) : (eqGuard op t a b (.int k x) (.int k' y)).run P w = .ok () w := by
  cases op <;> rfl
theorem guard_str {P : Program} (op : BinOp) (t : TypeId) (a b : Operand) (x y : ByteArray) : (eqGuard op t a b (.string x) (.string y)).run P w = .ok () w := by
  cases op <;> rfl
theorem binOther_sim {op : BinOp} {t : TypeId} {a b : AVal} (h : (binOther E op t a b).run s = .ok v s') (ho : OkObs s') (hr : Rel E.P ρ m s.heap.get w) {x y : Value} (hx : R ρ m a x) (hy : R ρ m b y)
    (hni : ∀ k n, a ≠ .int k n) (hns : ∀ l, a ≠ .str l) (ox oy : Operand) : Out E.P ρ m s w s' v ((do eqGuard op t ox oy x y; Go.binOp op t x y : Sem Value).run E.P w) := by
  have key : ∀ c s1, (equalTop E t a b).run s = .ok c s1 → OkObs s1 → Same s s1 ∧ (Op.equal t x y).run E.P w = .ok c w ∧ Cmp E.P t x y := fun c s1 he ho1 => by
    obtain ⟨e, r⟩ := equal_sim 100 9900 he ho1 hx hy w
    exact ⟨e, r, equal_cmp he hx hy⟩
  have shape : ∀ x y, Cmp E.P t x y → (∀ k n, x ≠ .int k n) → (∀ l, x ≠ .string l) → Go.binOp .eql t x y = (do pure (.bool (← Op.equal t x y)) : Sem Value) ∧ Go.binOp .neq t x y = (do pure (.bool (!(← Op.equal t x y))) : Sem Value) := by
    intro x y hc h1 h2
    cases hc with
    | int k a b => exact absurd rfl (h1 k a)
    | str a b => exact absurd rfl (h2 a)
    | ptr p q => cases p <;> cases q <;> exact ⟨rfl, rfl⟩
    | _ => exact ⟨rfl, rfl⟩
  have nx : ∀ k n, x ≠ .int k n := by
    rintro k n rfl
    cases hx with
    | int => exact hni _ _ rfl
    | junk =>
      unfold binOther at h
      split at h
      · obtain ⟨c, s1, he, _, ho1, _, _⟩ := M.bind_did h ho
        obtain ⟨u, s2, h1, h2⟩ := M.bind_ok he
        cases u with
        | struct fs => simp only at h2; split at h2 <;> exact (fail_ok h2).elim
        | array fs n => simp only at h2; split at h2 <;> exact (fail_ok h2).elim
        | _ => exact (fail_ok h2).elim
      · obtain ⟨c, s1, he, _, ho1, _, _⟩ := M.bind_did h ho
        obtain ⟨u, s2, h1, h2⟩ := M.bind_ok he
        cases u with
        | struct fs => simp only at h2; split at h2 <;> exact (fail_ok h2).elim
        | array fs n => simp only at h2; split at h2 <;> exact (fail_ok h2).elim
        | _ => exact (fail_ok h2).elim
      · exact (fail_ok h).elim
  have ny : ∀ k, x ≠ .string k := by
    rintro k rfl
    cases hx with
    | str => exact hns _ rfl
    | junk =>
      unfold binOther at h
      split at h
      · obtain ⟨c, s1, he, _, ho1, _, _⟩ := M.bind_did h ho
        obtain ⟨u, s2, h1, h2⟩ := M.bind_ok he
        cases u with
        | struct fs => simp only at h2; split at h2 <;> exact (fail_ok h2).elim
        | array fs n => simp only at h2; split at h2 <;> exact (fail_ok h2).elim
        | _ => exact (fail_ok h2).elim
      · obtain ⟨c, s1, he, _, ho1, _, _⟩ := M.bind_did h ho
        obtain ⟨u, s2, h1, h2⟩ := M.bind_ok he
        cases u with
        | struct fs => simp only at h2; split at h2 <;> exact (fail_ok h2).elim
        | array fs n => simp only at h2; split at h2 <;> exact (fail_ok h2).elim
        | _ => exact (fail_ok h2).elim
      · exact (fail_ok h).elim
  unfold binOther at h
  split at h
  · obtain ⟨c, s1, he, h2, ho1, _, _⟩ := M.bind_did h ho
    obtain ⟨rfl, rfl⟩ := pure_ok h2
    obtain ⟨e, r, hc⟩ := key c _ he ho1
    simp only [Sem.run_bind, hc.guard, Result.andThen_ok, (shape x y hc nx ny).1, r, Sem.run_pure]
    exact .same hr e (.bool _)
  · obtain ⟨c, s1, he, h2, ho1, _, _⟩ := M.bind_did h ho
    obtain ⟨rfl, rfl⟩ := pure_ok h2
    obtain ⟨e, r, hc⟩ := key c _ he ho1
    simp only [Sem.run_bind, hc.guard, Result.andThen_ok, (shape x y hc nx ny).2, r, Sem.run_pure]
    exact .same hr e (.bool _)
  · exact (fail_ok h).elim
theorem binOp_sim {op : BinOp} {t : TypeId} {a b : AVal} (h : (binOp E op t a b).run s = .ok v s') (ho : OkObs s') (hr : Rel E.P ρ m s.heap.get w) {x y : Value} (hx : R ρ m a x) (hy : R ρ m b y) (ox oy : Operand) :
    Out E.P ρ m s w s' v ((do eqGuard op t ox oy x y; Go.binOp op t x y : Sem Value).run E.P w) := by
  unfold binOp at h
  split at h
  · rename_i k n
    obtain rfl := hx.int_inv
    unfold binInt at h
    split at h
    · rename_i k' n'
      obtain rfl := hy.int_inv
      simp only [Sem.run_bind, guard_int, Result.andThen_ok]
      split at h
      · exact shiftOp_sim h ho hr t
      · split at h
        · rename_i hk
          have hk' : k = k' := of_decide_eq_true hk
          subst hk'
          exact intOp_sim h ho hr t
        · exact (fail_ok h).elim
    · exact (fail_ok h).elim
  · obtain ⟨l, rfl, h2⟩ := str_ok h
    obtain rfl := hx.str_inv
    obtain rfl := hy.str_inv
    simp only [Sem.run_bind, guard_str, Result.andThen_ok]
    exact strOp_sim h2 ho hr t
  · rename_i h1 h2
    exact binOther_sim h ho hr hx hy (fun k n e => h1 k n e) (fun l e => h2 l e) ox oy
theorem unOp_sim {P : Program} {op : UnOp} {a : AVal} (h : (unOp op a).run s = .ok v s') (ho : OkObs s') (hr : Rel P ρ m s.heap.get w) {x : Value} (hx : R ρ m a x) :
    Out P ρ m s w s' v ((Op.unary op x).run P w) := by
  unfold unOp at h
  split at h
  · split at h
    · obtain ⟨rfl, rfl⟩ := pure_ok h
      obtain rfl := hx.int_inv
      exact .same hr (.refl _) (.int _ _)
    · exact (fail_ok h).elim
  · split at h
    · obtain ⟨rfl, rfl⟩ := pure_ok h
      obtain rfl := hx.int_inv
      exact .same hr (.refl _) (.int _ _)
    · exact (fail_ok h).elim
  · split at h
    · obtain ⟨rfl, rfl⟩ := pure_ok h
      obtain rfl := hx.bool_inv
      exact .same hr (.refl _) (.bool _)
    · obtain ⟨rfl, rfl⟩ := pure_ok h
      obtain rfl := hx.blit_inv
      exact .same hr (.refl _) (.blit _)
    · exact (fail_ok h).elim
  · exact (fail_ok h).elim
theorem extract_sim {P : Program} {i : Nat} {a : AVal} (h : (extract a i).run s = .ok v s') (hr : Rel P ρ m s.heap.get w) {x : Value} (hx : R ρ m a x) :
    Out P ρ m s w s' v ((Instr.extract x i).run P w) := by
  unfold extract at h
  split at h
  · rename_i l
    obtain ⟨hg, rfl⟩ := getO_ok h
    cases hx with
    | tup l c hl hrr =>
      have hi := (List.getElem?_eq_some_iff.1 hg).1
      have hc : c[i]? = some c[i] := Array.getElem?_eq_getElem (by omega)
      simp only [Instr.extract, hc, Sem.run_pure]
      exact .same hr (.refl _) (hrr i v _ hg hc)
  · exact (fail_ok h).elim
theorem min2_sim {P : Program} {a b : AVal} (h : (min2 a b).run s = .ok v s') (hr : Rel P ρ m s.heap.get w) {x y : Value} (hx : R ρ m a x) (hy : R ρ m b y) :
    ∃ z, (Builtin.min2 x y).run P w = .ok z w ∧ R ρ m v z ∧ s' = s := by
  unfold min2 at h
  split at h
  · obtain ⟨q, n, rfl, h2⟩ := int_ok h
    obtain ⟨rfl, rfl⟩ := pure_ok h2
    obtain rfl := hx.int_inv
    obtain rfl := hy.int_inv
    exact ⟨_, rfl, .int _ _, rfl⟩
  · exact (fail_ok h).elim
theorem max2_sim {P : Program} {a b : AVal} (h : (max2 a b).run s = .ok v s') (hr : Rel P ρ m s.heap.get w) {x y : Value} (hx : R ρ m a x) (hy : R ρ m b y) :
    ∃ z, (Builtin.max2 x y).run P w = .ok z w ∧ R ρ m v z ∧ s' = s := by
  unfold max2 at h
  split at h
  · obtain ⟨q, n, rfl, h2⟩ := int_ok h
    obtain ⟨rfl, rfl⟩ := pure_ok h2
    obtain rfl := hx.int_inv
    obtain rfl := hy.int_inv
    exact ⟨_, rfl, .int _ _, rfl⟩
  · exact (fail_ok h).elim
inductive RV (ρ : Ren) (m : Mem) : List AVal → List Value → Prop
  | nil : RV ρ m [] []
  | cons {a : AVal} {x : Value} {l : List AVal} {xs : List Value} (h : R ρ m a x) (t : RV ρ m l xs) : RV ρ m (a :: l) (x :: xs)
theorem foldM2_sim {P : Program} {f : AVal → AVal → M AVal} {g : Value → Value → Sem Value} (hs : ∀ {s s' : St} {a b v : AVal}, (f a b).run s = .ok v s' → Rel P ρ m s.heap.get w → ∀ {x y : Value}, R ρ m a x → R ρ m b y →
      ∃ z, (g x y).run P w = .ok z w ∧ R ρ m v z ∧ s' = s) :
    ∀ {l : List AVal} {a v : AVal} {s s' : St}, (foldM2 f a l).run s = .ok v s' → Rel P ρ m s.heap.get w → ∀ {x : Value} {xs : List Value}, R ρ m a x → RV ρ m l xs → Out P ρ m s w s' v ((xs.foldlM g x).run P w) := by
  intro l
  induction l with
  | nil =>
    intro a v s s' h hr x xs hx hl
    obtain ⟨rfl, rfl⟩ := pure_ok h
    cases hl
    exact .same hr (.refl _) hx
  | cons b l ih =>
    intro a v s s' h hr x xs hx hl
    cases hl with
    | cons hb hl =>
      obtain ⟨c, s1, h1, h2⟩ := M.bind_ok h
      obtain ⟨z, k1, k2, rfl⟩ := hs h1 hr hx hb
      simp only [List.foldlM_cons, Sem.run_bind, k1, Result.andThen_ok]
      exact ih h2 hr k2 hl
end
end Go.Am
set_option linter.unusedSimpArgs false
set_option linter.unusedVariables false
namespace Go.Am
open Go
variable {E : Env}
section
variable {ρ : Ren} {m : Mem} {s s' : St} {w : World} {v : AVal}
theorem wrap_fit (n : Int) (h0 : 0 ≤ n) (h1 : n ≤ 9223372036854775807) : IntKind.i64.wrap n = n := by
 rw [IntKind.wrap_i64]; omega
theorem makeSlice_sim {t : TypeId} {a b : AVal} (h : (makeSlice E t a b).run s = .ok v s') (ho : OkObs s') (hr : Rel E.P ρ m s.heap.get w) (hf : Fresh ρ s s') {x y : Value} (hx : R ρ m a x) (hy : R ρ m b y) :
  Out E.P ρ m s w s' v ((Instr.makeSlice t x y).run E.P w) := by
 obtain ⟨d, s1, h1, h2⟩ := M.bind_ok h
 obtain ⟨⟨i, hi, rfl⟩, rfl⟩ := und_ok h1
 have hu := hi.run_und (w := w)
 cases hd : i.desc with
 | slice e =>
  rw [hd] at h2 hu
  obtain ⟨j, s2, h3, h4⟩ := M.bind_ok h2
  obtain ⟨hj, rfl⟩ := ti_ok h3
  obtain ⟨q1, l, rfl, h5⟩ := int_ok h4
  obtain ⟨q2, c, rfl, h6⟩ := int_ok h5
  obtain ⟨_, s3, h7, h8, ho3, _, _⟩ := M.bind_did h6 ho
  obtain ⟨hb, e3⟩ := ob_ok h7 ho3
  obtain ⟨b1, b2, b3, b4⟩ := of_decide_eq_true hb
  obtain ⟨id, s4, h9, h10⟩ := M.bind_ok h8
  obtain ⟨rfl, rfl⟩ := pure_ok h10
  obtain rfl := hx.int_inv
  obtain rfl := hy.int_inv
  obtain ⟨j', hj', hjs, hjb, z, hjz, hzi⟩ := hj.run_info (w := w)
  have hz : (zeroValue e).run E.P w = .ok z w := by
   obtain ⟨z', hz', hzi'⟩ := hj.run_zero (w := w)
   have : (zeroValue e).run E.P w = .ok z w := by
    simp only [zeroValue, Sem.run_bind, hj', Result.andThen_ok, hjz]; rfl
   exact this
  have hzc := hj.zcells (ρ := ρ) (m := m) hzi
  have hzs : z.cells.size = j.size := by rw [← hzc.len, hj.zsize]
  have hreps := reps_sim hzc c.toNat
  rw [hzs] at hreps
  have hr3 := hr.of_same e3
  have hf3 := hf.of_same e3
  obtain ⟨j2, hj2, hp⟩ := newBlock_sim h9 hr3 hf3 hreps
  have wl : IntKind.i64.wrap l = l := wrap_fit l b1 (by omega)
  have wc : IntKind.i64.wrap c = c := wrap_fit c (by omega) b3
  have c1 : ¬ c < 0 := by omega
  have c2 : ¬ ((j'.bytes : Int) * c > 2 ^ 48) := by rw [hjb]; omega
  have c3 : ¬ l < 0 := by omega
  have c4 : ¬ l > c := by omega
  refine ⟨_, _, _, ?_, hp.after e3, .slx id 0 l.toNat c.toNat j.size _ (by simp [Ren.put]; rfl) (by omega)⟩
  simp only [Instr.makeSlice, Sem.run_bind, hu, Result.andThen_ok, asInt, asIntOf, Sem.run_pure, hj', wl, wc, c1, c2, c3, c4, decide_false, Bool.or_self, Bool.false_eq_true, if_false, hj.run_size, run_askRoom, or_self]
  by_cases h0 : c.toNat * j.size = 0
  ·have harr : ((Array.range (c.toNat * j.size)).map ((#[] : Array Value)[· % (#[] : Array Value).size]!)) = ((Array.range (c.toNat * j.size)).map (z.cells[· % j.size]!)) := by rw [h0]; simp
   rw [if_pos h0]
   simp only [Sem.run_bind, Result.andThen_ok, Sem.run_pure]
   rw [harr]
   simp only [run_newRow, Sem.run_bind, Result.andThen_ok, Sem.run_pure]
  ·rw [if_neg h0]
   simp only [Sem.run_bind, Result.andThen_ok, Sem.run_pure, hz, hzs, run_newRow]
 | _ => rw [hd] at h2; exact (fail_ok h2).elim
theorem copy_sim {ts : Array TypeId} {ty t : TypeId} (hts : ts[0]? = some t) {a b : AVal} (h : (copy E t a b).run s = .ok v s') (ho : OkObs s') (hr : Rel E.P ρ m s.heap.get w) {x y : Value} (hx : R ρ m a x) (hy : R ρ m b y) :
  Out E.P ρ m s w s' v ((Builtin.copy_ ts ty #[x, y]).run E.P w) := by
 obtain ⟨d, s1, h1, h2⟩ := M.bind_ok h
 obtain ⟨⟨i, hi, rfl⟩, rfl⟩ := und_ok h1
 have hu := hi.run_und (w := w)
 cases hd : i.desc with
 | slice e =>
  rw [hd] at h2 hu
  obtain ⟨n1, s2, h3, h4⟩ := M.bind_ok h2
  obtain ⟨rfl, k1⟩ := lenOf_sim (P := E.P) (w := w) h3 hy
  obtain ⟨n2, s3, h5, h6⟩ := M.bind_ok h4
  obtain ⟨rfl, k2⟩ := lenOf_sim (P := E.P) (w := w) h5 hx
  obtain ⟨sz, s4, h7, h8⟩ := M.bind_ok h6
  obtain ⟨⟨j, hj, rfl⟩, rfl⟩ := sizeOf_ok h7
  obtain ⟨nothing, s5, h9, h10, ho5, _, _⟩ := M.bind_did h8 ho
  obtain ⟨hq, e5⟩ := ask_ok h9 ho5
  cases nothing with
  | true =>
   have hmin : min n1 n2 = 0 := Nat.eq_of_beq_eq_true hq.symm
   have fin : ∀ (base : Option Addr) (l c : Nat), x = .slice base l c → v = .int .i64 0 → s' = s5 → Out E.P ρ m s4 w s' v ((Builtin.copy_ ts ty #[x, y]).run E.P w) := by
    intro base l c hxe hv hs
    subst hxe; subst hv; subst hs
    have hl : l = n2 := by
     have := k2
     simp only [Builtin.lenOf] at this
     injection this
    subst hl
    have hm0 : Nat.min n1 l = 0 := hmin
    have hfc : (Builtin.firstCells j.size 0 y).run E.P w = .ok #[] w := by
     have sl : ∀ (o : Option Addr) (l c : Nat), (Builtin.firstCells j.size 0 (.slice o l c)).run E.P w = .ok #[] w := fun o l c => by
      cases o with
      | none => rfl
      | some ad => simp only [Builtin.firstCells, Nat.zero_mul]; rfl
     unfold lenOf at h3
     split at h3
     ·cases hy; exact sl _ _ _
     ·cases hy; exact sl _ _ _
     ·cases hy <;> exact sl _ _ _
     ·cases hy <;> exact sl _ _ _
     ·cases hy
      simp [Builtin.firstCells, getE_take_drop]
     ·exact (fail_ok h3).elim
    have hout : (Builtin.copy_ ts ty #[.slice base l c, y]).run E.P w = .ok (.int .i64 0) w := by
     cases base with
     | none => simp only [Builtin.copy_, hts, List.getElem?_toArray, List.getElem?_cons_zero, List.getElem?_cons_succ, Sem.run_bind, hu, Result.andThen_ok, k1, hj.run_size, hm0, hfc, Sem.run_pure]; rfl
     | some ad => simp only [Builtin.copy_, hts, List.getElem?_toArray, List.getElem?_cons_zero, List.getElem?_cons_succ, Sem.run_bind, hu, Result.andThen_ok, k1, hj.run_size, hm0, hfc, Sem.run_pure]; rfl
    rw [hout]
    exact .same hr e5 (.int _ _)
   simp only at h10
   split at h10
   ·exact (fail_ok h10).elim
   ·rename_i hns
    obtain ⟨hv, hs⟩ := pure_ok h10
    unfold lenOf at h5
    split at h5
    ·cases hx; exact fin _ _ _ rfl hv hs
    ·cases hx; exact fin _ _ _ rfl hv hs
    ·cases hx <;> exact fin _ _ _ rfl hv hs
    ·cases hx <;> exact fin _ _ _ rfl hv hs
    ·exact absurd rfl (hns _)
    ·exact (fail_ok h5).elim
  | false =>
   have hne : ¬ min n1 n2 = 0 := by intro hh; rw [hh] at hq; cases hq
   obtain ⟨cs, s6, h11, h12, ho6, _, _⟩ := M.bind_did h10 ho
   have hr5 := hr.of_same e5
   obtain ⟨xa, g1, g2, g3, e6⟩ := sliceCells_sim h11 ho6 hr5 hy
   have hr6 := hr5.of_same e6
   try simp only at h12
   split at h12
   ·rename_i id off len cap sz
    obtain ⟨hsz, h13⟩ := sameSz_ok h12
    obtain ⟨_, s7, h14, h15⟩ := M.bind_ok h13
    obtain ⟨rfl, rfl⟩ := pure_ok h15
    have go : ∀ (r : RB) (c : Nat), ρ id = some r → x = .slice (some ⟨r.b, off, none⟩) len c → Out E.P ρ m s4 w s' (.int .i64 (min n1 n2 : Nat)) ((Builtin.copy_ ts ty #[x, y]).run E.P w) := by
     intro r c hρ hxe
     subst hxe
     have hl : len = n2 := by
      have := k2
      simp only [Builtin.lenOf] at this
      injection this
     subst hl
     obtain ⟨ad, w', q1, q2, q3⟩ := writeCells_sim h14 ho hr6 (.ptr id off r hρ) (xs := xa.toList) (by simpa using g2.len) (fun j p q hp hq => g2.at_ j p q hp (by simpa using hq))
     injection q1 with q1
     injection q1 with q1
     subst q1
     have hm0 : Nat.min n1 len = min n1 len := rfl
     refine ⟨_, w', ρ, ?_, q3.after (e5.trans e6), .int _ _⟩
     simp only [Builtin.copy_, hts, List.getElem?_toArray, List.getElem?_cons_zero, List.getElem?_cons_succ, Sem.run_bind, hu, Result.andThen_ok, k1, hj.run_size, hm0, g1, q2, Sem.run_pure]; rfl
    cases hx with
    | slx _ _ _ c _ r hρ hl => exact go r c hρ rfl
    | slw _ _ _ c _ r hρ hl hs hc => exact go r c hρ rfl
    | sl0 _ _ _ _ ad hc hn' =>
     have : n2 = 0 := by
      have := k2
      simp only [Builtin.lenOf] at this
      injection this with this
      exact this.symm
     omega
   ·exact (fail_ok h12).elim
 | _ => rw [hd] at h2; exact (fail_ok h2).elim
theorem newObj_sim {P : Program} {b : Blk} {id : Nat} (h : (newB b).run s = .ok id s') (hr : Rel P ρ m s.heap.get w) (hf : Fresh ρ s s') (o : Obj) (n sz : Nat)
  (hb : ∀ ρ', RenLe ρ ρ' → BR P ρ' m ⟨w.heap.size, n, sz⟩ b o) : id = s.next ∧ Post P ρ m s w (ρ.put id ⟨w.heap.size, n, sz⟩) m s' (w.alloc o) := by
 obtain ⟨h1, h2, h3⟩ := new_ok h
 have hρ : ρ id = none := hf id ⟨by omega, by omega⟩
 refine ⟨h1, ⟨RenLe.put hρ, fun j hj => ?_, fun _ _ h => h, hr.new hρ (hb _ (RenLe.put hρ)) h3, .alloc _ _, by omega⟩⟩
 unfold Ren.put at hj
 by_cases e : j = id
 ·exact .inr ⟨by omega, by omega⟩
 ·simp only [e, if_false] at hj
  exact .inl hj
theorem run_setObj_upd {P : Program} {w : World} {b : Nat} {o o' : Obj} (h : w.heap[b]? = some o) (hc : ∀ c t f, o ≠ .cells c t f) : (setObj b o').run P w = .ok () (World.upd w b o') := by
 cases o with
 | cells c t f => exact absurd rfl (hc c t f)
 | _ => simp only [setObj, Sem.run, h]; simp [World.upd, Array.set!]
theorem run_getObj_at {P : Program} {w : World} {b : Nat} {o : Obj} (h : w.heap[b]? = some o) (hc : ∀ c t f, o ≠ .cells c t f) : (getObj b).run P w = .ok o w := by
 cases o with
 | cells c t f => exact absurd rfl (hc c t f)
 | _ => simp only [getObj, Sem.run, h]
theorem range_sim {t : TypeId} {a : AVal} (h : (range E t a).run s = .ok v s') (ho : OkObs s') (hr : Rel E.P ρ m s.heap.get w) (hf : Fresh ρ s s') {x : Value} (hx : R ρ m a x) :
  Out E.P ρ m s w s' v ((Instr.range t x).run E.P w) := by
 obtain ⟨d, s1, h1, h2⟩ := M.bind_ok h
 obtain ⟨⟨i, hi, rfl⟩, rfl⟩ := und_ok h1
 have hu := hi.run_und (w := w)
 cases hd : i.desc with
 | string =>
  rw [hd] at h2 hu
  obtain ⟨l, rfl, h3⟩ := str_ok h2
  obtain rfl := hx.str_inv
  obtain ⟨id, s2, h4, h5⟩ := M.bind_ok h3
  obtain ⟨rfl, rfl⟩ := pure_ok h5
  obtain ⟨_, hp⟩ := newObj_sim h4 hr hf (.stringIter ⟨⟨l⟩⟩ 0) 0 0 (fun _ _ => .siter _ l 0)
  refine ⟨_, _, _, ?_, hp, .ptr id 0 ⟨w.heap.size, 0, 0⟩ (by simp [Ren.put])⟩
  simp only [Instr.range, Sem.run_bind, hu, Result.andThen_ok, Sem.run_pure, run_newObj_alloc]
 | map kt et =>
  rw [hd] at h2 hu
  simp only at h2
  split at h2
  ·rename_i id
   obtain ⟨b, s2, h3, h4, ho2, _, _⟩ := M.bind_did h2 ho
   obtain ⟨hg, e2⟩ := get_ok h3
   split at h4
   ·rename_i es ck
    obtain ⟨it, s3, h5, h6⟩ := M.bind_ok h4
    obtain ⟨rfl, rfl⟩ := pure_ok h6
    cases hx with
    | map _ r hρ =>
     obtain ⟨rb, o, q1, q2, q3, q4⟩ := hr.live id _ hg
     rw [hρ] at q1
     injection q1 with q1
     subst q1
     cases q3 with
     | map _ _ arr hl hra =>
      have hgo : (getObj r.b).run E.P w = .ok (.map arr ck) w := run_getObj_at q2 (fun _ _ _ h => by cases h)
      obtain ⟨_, hp⟩ := newObj_sim h5 (hr.of_same e2) (hf.of_same e2) (.mapIter (some r.b) ck #[] ck) 0 0 (fun ρ' hle => .miter _ id ck [] ck r (hle id r hρ))
      refine ⟨_, _, _, ?_, hp.after e2, .ptr it 0 ⟨w.heap.size, 0, 0⟩ (by simp [Ren.put])⟩
      simp only [Instr.range, Sem.run_bind, hu, hgo, Result.andThen_ok, Sem.run_pure, run_newObj_alloc]
   ·exact (fail_ok h4).elim
  ·exact (fail_ok h2).elim
 | _ => rw [hd] at h2; exact (fail_ok h2).elim
theorem next_sim {P : Program} {ty : TypeId} {a : AVal} (h : (next a).run s = .ok v s') (ho : OkObs s') (hr : Rel P ρ m s.heap.get w) {x : Value} (hx : R ρ m a x) :
  Out P ρ m s w s' v ((Instr.next x true ty).run P w) := by
 unfold next at h
 split at h
 ·rename_i id off
  split at h
  ·rename_i h0
   obtain rfl := Nat.eq_of_beq_eq_true h0
   obtain ⟨b, s1, h1, h2, ho1, _, _⟩ := M.bind_did h ho
   obtain ⟨hg, e1⟩ := get_ok h1
   unfold nextS at h2
   split at h2
   ·rename_i l pos
    obtain ⟨more, s2, h3, h4, ho2, _, _⟩ := M.bind_did h2 ho
    obtain ⟨hq, e2⟩ := ask_ok h3 ho2
    cases hx with
    | ptr _ _ r hρ =>
     obtain ⟨rb, o, q1, q2, q3, q4⟩ := hr.live id _ hg
     rw [hρ] at q1
     injection q1 with q1
     subst q1
     cases q3 with
     | siter _ _ =>
      have hgo : (getObj r.b).run P w = .ok (.stringIter ⟨⟨l⟩⟩ pos) w := run_getObj_at q2 (fun _ _ _ h => by cases h)
      have hsz : (⟨⟨l⟩⟩ : ByteArray).size = l.length := rfl
      cases more with
      | true =>
       have hlt : pos < l.length := Nat.le_of_ble_eq_true hq.symm
       obtain ⟨_, s3, h5, h6⟩ := M.bind_ok h4
       obtain ⟨rfl, rfl⟩ := pure_ok h6
       obtain ⟨_, hn, hset⟩ := set_ok h5
       have es := e1.trans e2
       refine ⟨.tuple #[.bool true, goInt pos, .int .i32 (Utf8.decode ⟨⟨l⟩⟩ pos).1], World.upd w r.b (.stringIter ⟨⟨l⟩⟩ (pos + (Utf8.decode ⟨⟨l⟩⟩ pos).2)), ρ, ?_, ⟨.refl ρ, fun _ h => .inl h, fun _ _ h => h,
        hr.upd hg hρ (.siter r l _) (fun j => by rw [hset j, es.heap]), World.upd_fr _ _ _, by rw [hn, es.next]; exact Nat.le_refl _⟩, ?_⟩
       ·simp only [Instr.next, Sem.run_bind, hgo, Result.andThen_ok, hsz, hlt, if_true, run_setObj_upd q2 (fun _ _ _ h => by cases h), Sem.run_pure]
       ·refine .tup _ _ rfl (fun i v x hv hx => ?_)
        rcases i with _ | _ | _ | i
        ·simp at hv hx; subst hv; subst hx; exact .blit _
        ·simp at hv hx; subst hv; subst hx; exact .int _ _
        ·simp at hv hx; subst hv; subst hx; exact .int _ _
        ·simp at hv
      | false =>
       have hlt : ¬ pos < l.length := fun hh => by
        have : pos.blt l.length = true := Nat.ble_eq_true_of_le hh
        rw [this] at hq; cases hq
       obtain ⟨rfl, rfl⟩ := pure_ok h4
       refine ⟨.tuple #[.bool false], w, ρ, ?_, .of_same hr (e1.trans e2), ?_⟩
       ·simp only [Instr.next, Sem.run_bind, hgo, Result.andThen_ok, hsz, hlt, if_false, Sem.run_pure]
       ·refine .tup _ _ rfl (fun i v x hv hx => ?_)
        rcases i with _ | i
        ·simp at hv hx; subst hv; subst hx; exact .blit _
        ·simp at hv
   ·exact (fail_ok h2).elim
  ·exact (fail_ok h).elim
 ·exact (fail_ok h).elim
end
end Go.Am
set_option linter.unusedSimpArgs false
set_option linter.unusedVariables false
namespace Go.Am
open Go
variable {E : Env}
section
variable {ρ : Ren} {m : Mem} {s s' : St} {w : World} {v : AVal}
theorem isU8_ok {d : TypeDesc} (h : isU8 d = true) : d = .int .u8 := by
 unfold isU8 at h
 split at h
 ·rfl
 ·cases h
theorem isByte_ok {a : AVal} (h : isByte a = true) : ∃ n, a = .int .u8 n := by
 unfold isByte at h
 split at h
 ·exact ⟨_, rfl⟩
 ·cases h
theorem bytes_of {cs : List AVal} (h : cs.all isByte = true) {xs : Array Value} (hx : RL ρ m cs xs) : ∃ ns : List Int, xs = (ns.map (Value.int .u8)).toArray ∧ cs.map toByte = ns.map fun n => UInt8.ofNat n.toNat := by
 obtain ⟨xl⟩ := xs
 have hl := hx.len
 have ha := hx.at_
 clear hx
 simp only [List.size_toArray] at hl
 revert xl
 induction cs with
 | nil =>
  intro xl _ hl
  cases xl with
  | nil => exact ⟨[], rfl, rfl⟩
  | cons => simp at hl
 | cons c cs ih =>
  intro xl ha hl
  cases xl with
  | nil => simp at hl
  | cons x xl =>
   simp only [List.all_cons, Bool.and_eq_true] at h
   obtain ⟨n, rfl⟩ := isByte_ok h.1
   obtain ⟨ns, h1, h2⟩ := ih h.2 xl (fun i v x hv hx => ha (i + 1) v x (by simpa using hv) (by simpa using hx)) (by simpa using hl)
   have := (ha 0 (.int .u8 n) x (by simp) (by simp)).int_inv
   subst this
   refine ⟨n :: ns, ?_, by simp [toByte, h2]⟩
   have h1' : xl = ns.map (Value.int .u8) := by simpa using h1
   rw [h1', List.map_cons]
theorem convStr_sim {src dst e : TypeId} {a : AVal} (hs : E.P.underlying src = some (.slice e)) (hd : E.P.underlying dst = some .string) (h : (convStr E e a).run s = .ok v s') (ho : OkObs s') (hr : Rel E.P ρ m s.heap.get w)
  (hns : ∀ l, a ≠ .str l) {x : Value} (hx : R ρ m a x) : Out E.P ρ m s w s' v ((Go.convert src dst x).run E.P w) := by
 obtain ⟨u, s1, h1, h2⟩ := M.bind_ok h
 obtain ⟨⟨i, hi, rfl⟩, rfl⟩ := und_ok h1
 split at h2
 ·rename_i hu
  have he : E.P.underlying e = some (.int .u8) := by rw [hi.und, isU8_ok hu]
  obtain ⟨n, s2, h3, h4⟩ := M.bind_ok h2
  obtain ⟨rfl, k1⟩ := lenOf_sim (P := E.P) (w := w) h3 hx
  obtain ⟨cs, s3, h5, h6, ho3, _, _⟩ := M.bind_did h4 ho
  obtain ⟨xs, g1, g2, g3, e3⟩ := sliceCells_sim h5 ho3 hr hx
  obtain ⟨_, s4, h7, h8, ho4, _, _⟩ := M.bind_did h6 ho
  obtain ⟨hall, e4⟩ := ob_ok h7 ho4
  obtain ⟨rfl, rfl⟩ := pure_ok h8
  obtain ⟨ns, b1, b2⟩ := bytes_of hall g2
  have go : ∀ (base : Option Addr) (l c : Nat), x = .slice base l c → Out E.P ρ m s2 w s' (.str (cs.map toByte)) ((Go.convert src dst x).run E.P w) := by
   rintro base l c rfl
   have hl : l = n := by
    have := k1
    simp only [Builtin.lenOf] at this
    injection this
   subst hl
   have fin : (Conv.bytesToString (.slice base l c)).run E.P w = .ok (.string ⟨⟨cs.map toByte⟩⟩) w := by
    cases base with
    | none =>
     have : xs = #[] := by
      have := g1
      simp only [Builtin.firstCells] at this
      injection this with this
      exact this.symm
     have hc : cs = [] := by
      have := g2.len
      rw [‹xs = #[]›] at this
      simpa using this
     subst hc
     rfl
    | some ad =>
     have : (loadCells ad l).run E.P w = .ok (ns.map (Value.int .u8)).toArray w := by
      have := g1
      simp only [Builtin.firstCells, Nat.mul_one] at this
      rw [this, b1]
     rw [run_bytesToString w ad l c ns this, foldl_push_bytes, b2]
     have : ((ByteArray.empty).data ++ (ns.map fun n => UInt8.ofNat n.toNat).toArray) = ⟨ns.map fun n => UInt8.ofNat n.toNat⟩ := by
      have he0 : ByteArray.empty.data = #[] := rfl
      rw [he0]; simp
     rw [this]
   rw [run_convert_bytes_string w src dst e base l c hs he hd, fin]
   exact .same hr (e3.trans e4) (.str _)
  unfold lenOf at h3
  split at h3
  ·cases hx; exact go _ _ _ rfl
  ·cases hx; exact go _ _ _ rfl
  ·cases hx <;> exact go _ _ _ rfl
  ·cases hx <;> exact go _ _ _ rfl
  ·exact absurd rfl (hns _)
  ·exact (fail_ok h3).elim
 ·exact (fail_ok h2).elim
theorem freeze_upd {w : World} {b n : Nat} {c : Array Value} {t : TypeId} {fr : Nat × Nat} (h : w.heap[b]? = some (.cells c t fr)) :
  ∃ fr', (fr' = (n, n + 1) ∨ fr' = (min fr.1 n, max fr.2 (n + 1)) ∧ fr.1 ≠ fr.2) ∧ w.freeze ⟨b, n, none⟩ 1 = World.upd w b (.cells c t fr') := by
 obtain ⟨hb, he⟩ := Array.getElem?_eq_some_iff.1 h
 refine ⟨if fr.1 == fr.2 then (n, n + 1) else (min fr.1 n, max fr.2 (n + 1)), ?_, ?_⟩
 ·by_cases hf : fr.1 = fr.2
  ·simp [hf]
  ·simp [hf]
 ·unfold World.freeze World.upd
  rw [if_neg (by decide)]
  congr 1
  apply Array.ext_getElem?
  intro i
  rw [Array.getElem?_modify, Array.getElem?_setIfInBounds]
  by_cases e : b = i
  ·subst e
   obtain ⟨lo, hi⟩ := fr
   simp [hb, he]
  ·simp [e]
theorem convert_sim {src dst : TypeId} {a : AVal} (h : (convert E src dst a).run s = .ok v s') (ho : OkObs s') (hr : Rel E.P ρ m s.heap.get w) (hf : Fresh ρ s s') {x : Value} (hx : R ρ m a x) :
  Out E.P ρ m s w s' v ((Go.convert src dst x).run E.P w) := by
 obtain ⟨ds, s1, h1, h2⟩ := M.bind_ok h
 obtain ⟨⟨i, hi, rfl⟩, rfl⟩ := und_ok h1
 obtain ⟨dd, s2, h3, h4⟩ := M.bind_ok h2
 obtain ⟨⟨j, hj, rfl⟩, rfl⟩ := und_ok h3
 have hu := hi.run_und (w := w)
 have hv := hj.run_und (w := w)
 cases hd : j.desc with
 | int k =>
  rw [hd] at h4 hv
  obtain ⟨q, n, rfl, h5⟩ := int_ok h4
  obtain ⟨rfl, rfl⟩ := pure_ok h5
  obtain rfl := hx.int_inv
  simp only [Go.convert, Sem.run_bind, hu, hv, Result.andThen_ok, Conv.intToInt, Sem.run_pure]
  exact .same hr (.refl _) (.int _ _)
 | string =>
  rw [hd] at h4 hv
  cases hs : i.desc with
  | string =>
   rw [hs] at h4 hu
   obtain ⟨l, rfl, h5⟩ := str_ok h4
   obtain ⟨rfl, rfl⟩ := pure_ok h5
   obtain rfl := hx.str_inv
   simp only [Go.convert, Sem.run_bind, hu, hv, Result.andThen_ok, Sem.run_pure]
   exact .same hr (.refl _) (.str _)
  | slice e =>
   rw [hs] at h4 hu
   simp only at h4
   split at h4
   ·exact (fail_ok h4).elim
   ·rename_i hns
    exact convStr_sim (by rw [hi.und, hs]) (by rw [hj.und, hd]) h4 ho hr (fun l e => hns l e) hx
  | _ => rw [hs] at h4; exact (fail_ok h4).elim
 | slice e =>
  rw [hd] at h4 hv
  obtain ⟨u, s3, h5, h6⟩ := M.bind_ok h4
  obtain ⟨⟨i8, hi8, rfl⟩, rfl⟩ := und_ok h5
  split at h6
  ·rename_i hu8
   have he : E.P.underlying e = some (.int .u8) := by rw [hi8.und, isU8_ok hu8]
   have hrune : (underlying e).run E.P w = .ok (.int .u8) w := run_underlying he w
   cases hs : i.desc with
   | string =>
    rw [hs] at h6 hu
    obtain ⟨l, rfl, h7⟩ := str_ok h6
    obtain ⟨n, s4, h8, h9⟩ := M.bind_ok h7
    obtain ⟨⟨ie, hie, rfl⟩, rfl⟩ := sizeOf_ok h8
    obtain ⟨h1s, h10⟩ := sameSz_ok h9
    obtain ⟨id, s5, h11, h12⟩ := M.bind_ok h10
    obtain ⟨rfl, rfl⟩ := pure_ok h12
    obtain ⟨i2, s6, h13, h14⟩ := M.bind_ok h11
    obtain ⟨hi2, rfl⟩ := ti_ok h13
    obtain rfl := hx.str_inv
    have hszl : (⟨⟨l⟩⟩ : ByteArray).size = l.length := rfl
    have hcap : l.length ≤ grownCap w l.length 0 e := by simp only [grownCap, Question.cut]; omega
    have hrow := run_bytes_of_string (P := E.P) w src dst e ⟨⟨l⟩⟩ (by rw [hi.und, hs]) (by rw [hj.und, hd]) he
    rw [hszl] at hrow
    have hrs : (bytesRow ⟨⟨l⟩⟩ (grownCap w l.length 0 e)).size = grownCap w l.length 0 e := by
     simp only [bytesRow, Array.size_append, Array.size_map, Array.size_replicate, hszl]
     show l.length + _ = _
     omega
    rw [hrs] at hrow
    have ei : i2.size = 1 := by
     have h1 := hi2.size_info
     rw [hie.size_info, h1s] at h1
     injection h1 with h1
     exact h1.symm
    obtain ⟨_, hp⟩ := newObj_sim (w := { w with drawn := w.drawn + 1 }) h14 hr.drew hf (.cells (bytesRow ⟨⟨l⟩⟩ (grownCap w l.length 0 e)) e (grownCap w l.length 0 e, grownCap w l.length 0 e + 1)) (grownCap w l.length 0 e) 1 (fun ρ' hle =>
     .row _ (.l (byteCells l)) e _ _ (by rw [hi2.size_info, ei]) hrs (by rw [hrs]; simpa [Cont.size, byteCells_length] using hcap) (fun q y hq hy => by
      simp only [Cont.size, byteCells_length] at hq
      rw [bytesRow_at _ _ _ (show q < l.length from hq)] at hy
      injection hy with hy
      subst hy
      simp only [Cont.at, nth_get, byteCells_get, List.getElem?_eq_getElem hq, Option.map_some, Option.getD_some]
      exact .int _ _) (.inr ⟨by rw [hrs]; exact Nat.le_refl _, he⟩))
    refine ⟨_, _, _, hrow, hp.drew, .slw id 0 l.length _ 1 ⟨w.heap.size, grownCap w l.length 0 e, 1⟩ (by simp [Ren.put]) hcap rfl (by simp)⟩
   | slice e' =>
    rw [hs] at h6 hu
    simp only at h6
    split at h6
    ·rename_i hsd
     obtain rfl := Nat.eq_of_beq_eq_true hsd
     split at h6
     ·rename_i id off len cap sz
      obtain ⟨b, s4, h7, h8, ho4, _, _⟩ := M.bind_did h6 ho
      obtain ⟨hg, e4⟩ := get_ok h7
      obtain ⟨c, t, rfl, h9⟩ := row_ok h8
      obtain ⟨_, s5, h10, h11, ho5, _, _⟩ := M.bind_did h9 ho
      obtain ⟨hb, e5⟩ := ob_ok h10 ho5
      rw [Bool.and_eq_true] at hb
      obtain ⟨hb, hte⟩ := hb
      obtain rfl := Nat.eq_of_beq_eq_true hte
      obtain ⟨_, s6, h12, h13⟩ := M.bind_ok h11
      obtain ⟨rfl, rfl⟩ := pure_ok h13
      obtain ⟨b', s7, h14, h15⟩ := M.bind_ok h12
      obtain ⟨hg7, e7⟩ := get_ok h14
      have hb' : b' = .row c t := by
       rw [e5.heap, e4.heap] at hg7
       rw [hg] at hg7
       injection hg7 with hg7
       exact hg7.symm
      subst hb'
      obtain ⟨_, hn, hset⟩ := set_ok h15
      have es := (e4.trans e5).trans e7
      have hee : e' = t := by
       have h1 : E.P.underlying src = some (.slice e') := by rw [hi.und, hs]
       rw [hj.und, hd] at h1
       injection h1 with h1
       injection h1 with h1
       exact h1.symm
      have hbeq : (src == src) = true := by simp
      have go : ∀ (r : RB) (cc : Nat), ρ id = some r → x = .slice (some ⟨r.b, off, none⟩) len cc → R ρ m (.sl id off len cap sz) x → Out E.P ρ m s3 w s' (.sl id off len cap sz) ((Go.convert src src x).run E.P w) := by
       rintro r cc hρ rfl hxx
       obtain ⟨arr, fr, q1, q2, q3, q4, q5, q6, q7⟩ := hr.row hg hρ
       obtain ⟨fr', f1, f2⟩ := freeze_upd (n := arr.size) q1
       have hsh : w.shape? r.b = some (t, arr.size) := by unfold World.shape?; rw [q1]
       refine ⟨_, _, ρ, ?_, ⟨.refl ρ, fun _ h => .inl h, fun _ _ h => h, hr.upd hg hρ (.row r c t arr fr' q2 q3 q4 q5 ?_) (fun jj => by rw [hset jj, es.heap]), World.upd_fr _ _ _, by rw [hn, es.next]; exact Nat.le_refl _⟩, hxx⟩
       ·simp only [Go.convert, Sem.run_bind, hv, Result.andThen_ok, hbeq, hrune, markStringish, shape, freeze, Sem.run, hsh, Sem.bind]
        rw [f2]
        rfl
       ·rcases f1 with rfl | ⟨rfl, hne⟩
        ·exact .inr ⟨Nat.le_refl _, he⟩
        ·rcases q6 with q6 | q6
         ·exact absurd q6 hne
         ·exact .inr ⟨by have := q6.1; simp only; omega, he⟩
      cases hx with
      | slx _ _ _ cc _ r hρ hl => exact go r cc hρ rfl (.slx _ _ _ cc _ r hρ hl)
      | slw _ _ _ cc _ r hρ hl hs2 hc => exact go r cc hρ rfl (.slw _ _ _ cc _ r hρ hl hs2 hc)
      | sl0 _ _ _ _ ad hc hn' =>
       exfalso
       cases cap with
       | some k =>
        have := hc k rfl
        subst this
        cases hb
       | none =>
        obtain ⟨r, hρ, hro⟩ := hn' rfl
        obtain ⟨arr, fr, q1, q2, q3, q4, _⟩ := hr.row hg hρ
        have hlt : off < c.size := Nat.le_of_ble_eq_true hb
        omega
     ·exact (fail_ok h6).elim
    ·exact (fail_ok h6).elim
   | _ => rw [hs] at h6; exact (fail_ok h6).elim
  ·exact (fail_ok h6).elim
 | _ => rw [hd] at h4; exact (fail_ok h4).elim
end
end Go.Am
