/- What the statement reaches, gone through; and the abstract machine that goes through it. -/
import GoSem.Dispatch
import GoSem.Machine.Frame
import Derived.RangeFuncIn
import Derived.OrdersIn
import Derived.RangeFuncLeaves
import Derived.TacticsIn
import Derived.Laws.Sem
import Derived.Laws.World
import Derived.Laws.Cells
import Derived.Laws.Entries
import Derived.Laws.NewFold
import Derived.Lib.AppendZerosOnto
import Derived.Laws.BytesArg
import Derived.Laws.IdiomStrings
import Derived.Laws.StructEq
set_option linter.unusedSimpArgs false
set_option linter.unusedVariables false
namespace Go.Am
open Go
inductive a9 where
 | bool (b : Bool)
 | fU (b : Bool)
 | int (k : IntKind) (n : Int)
 | str (l : List UInt8)
 | dG | aN | kZ | cF | zM
 | emp
 | ptr (id off : Nat)
 | sl (id off len : Nat) (cap : Option Nat) (sz : Nat)
 | ip (f : Nat → a9) (n off : Nat)
 | isl (f : Nat → a9) (sz off len : Nat)
 | fn (f : Fn) (first cap : List a9)
 | agg (l : List a9)
 | tup (l : List a9)
 | map (id : Nat)
 | aA
instance : Inhabited a9 := ⟨.aA⟩
mutual
def ofValue : Value → a9
 | .bool b => .bool b
 | .int k n => .int k n
 | .string s => .str s.data.toList
 | .pointer none => .dG
 | .slice none 0 0 => .aN
 | .map none => .kZ
 | .nilFunc => .cF
 | .nilIface => .zM
 | .agg c => .agg (xU c)
 | .tuple c => .tup (xU c)
 | _ => .aA
def xU : Array Value → List a9
 | ⟨l⟩ => ofList l
def ofList : List Value → List a9
 | [] => []
 | v :: l => ofValue v :: ofList l
end
def a9.cells : a9 → List a9
 | .agg l => l
 | v => [v]
def undef : a9 := .tup []
def nth : List a9 → Nat → a9 → a9
 | [], _, d => d
 | a :: _, 0, _ => a
 | _ :: l, n + 1, d => nth l n d
def put : List a9 → Nat → a9 → List a9
 | [], _, _ => []
 | _ :: l, 0, v => v :: l
 | a :: l, n + 1, v => a :: put l n v
inductive bG where
 | l (xs : List a9)
 | f (n : Nat) (g : Nat → a9)
def bG.size : bG → Nat
 | .l xs => xs.length
 | .f n _ => n
def bG.at : bG → Nat → a9
 | .l xs, i => nth xs i .aA
 | .f _ g, i => g i
def bG.set (c : bG) (i : Nat) (v : a9) : bG :=
 match c with
 | .l xs => .l (put xs i v)
 | .f n g => .f n fun k => match k.beq i with | true => v | false => g k
def cellsOf (g : Nat → a9) (off : Nat) : Nat → List a9
 | 0 => []
 | n + 1 => g off :: cellsOf g (off + 1) n
def bG.sub (c : bG) (off n : Nat) : List a9 :=
 match c with
 | .l xs => (xs.drop off).take n
 | .f _ g => cellsOf g off n
structure kS where
 state : LoopState
 pending : Option Code
 fn : FuncId
 tmps : List a9
 params : List Tmp
 assign : Code
 body : Code
inductive Blk where
 | row (c : bG) (elem : TypeId)
 | loop (l : kS)
 | mK (s : List UInt8) (pos : Nat)
 | map (es : List (a9 × a9 × Nat)) (ck : Nat)
 | hG (m since : Nat) (seen : List Nat) (gL : Nat)
inductive Tr where
 | nil
 | fn (g : Nat → Option Blk)
 | node (l : Tr) (v : Option Blk) (r : Tr)
def Tr.get : Tr → Nat → Option Blk
 | .nil, _ => none
 | .fn g, n => g n
 | .node l v r, n => match n with
  | 0 => v
  | n + 1 => match (n % 2).beq 0 with
   | true => l.get (n / 2)
   | false => r.get (n / 2)
def Tr.left : Tr → Tr
 | .nil => .nil
 | .fn g => .fn fun n => g (2 * n + 1)
 | .node l _ _ => l
def Tr.val : Tr → Option Blk
 | .nil => none
 | .fn g => g 0
 | .node _ v _ => v
def Tr.right : Tr → Tr
 | .nil => .nil
 | .fn g => .fn fun n => g (2 * n + 2)
 | .node _ _ r => r
def Tr.set : (fuel : Nat) → Tr → Nat → Option Blk → Tr
 | 0, t, _, _ => t
 | k + 1, t, n, b => match n with
   | 0 => .node t.left b t.right
   | n + 1 => match (n % 2).beq 0 with
    | true => .node (Tr.set k t.left (n / 2) b) t.val t.right
    | false => .node t.left t.val (Tr.set k t.right (n / 2) b)
theorem Tr.y9 (t : Tr) (n : Nat) : t.left.get n = t.get (2 * n + 1) := by
 cases t with
 | nil => simp [Tr.left, Tr.get]
 | fn g => simp [Tr.left, Tr.get]
 | node l v r =>
  simp only [Tr.left, Tr.get]
  have h1 : 2 * n % 2 = 0 := by omega
  have h2 : 2 * n / 2 = n := by omega
  rw [h1, h2]
theorem Tr.vH (t : Tr) (n : Nat) : t.right.get n = t.get (2 * n + 2) := by
 cases t with
 | nil => simp [Tr.right, Tr.get]
 | fn g => simp [Tr.right, Tr.get]
 | node l v r =>
  simp only [Tr.right, Tr.get]
  have h1 : (2 * n + 1) % 2 = 1 := by omega
  have h2 : (2 * n + 1) / 2 = n := by omega
  rw [h1, h2]
theorem Tr.EA (t : Tr) : t.val = t.get 0 := by cases t <;> rfl
theorem Tr.TY : ∀ (k : Nat) (t : Tr) (n : Nat) (b : Option Blk), n + 1 < 2 ^ k → ∀ j, (Tr.set k t n b).get j = if j = n then b else t.get j := by
 intro k
 induction k with
 | zero => intro t n b h; simp at h
 | succ k ih =>
  intro t n b h j
  cases n with
  | zero =>
   simp only [Tr.set]
   cases j with
   | zero => simp [Tr.get]
   | succ j =>
    simp only [Tr.get]
    rcases Nat.mod_two_eq_zero_or_one j with hj | hj
    ·rw [hj]; simp only [Nat.beq_refl]
     rw [Tr.y9]
     have : 2 * (j / 2) + 1 = j + 1 := by omega
     rw [this]; simp
    ·rw [hj]; simp only [show (1 : Nat).beq 0 = false from rfl]
     rw [Tr.vH]
     have : 2 * (j / 2) + 2 = j + 1 := by omega
     rw [this]; simp
  | succ n =>
   simp only [Tr.set]
   rcases Nat.mod_two_eq_zero_or_one n with hn | hn
   ·rw [hn]; simp only [Nat.beq_refl]
    have ih' := ih t.left (n / 2) b (by rw [Nat.pow_succ] at h; omega)
    cases j with
    | zero => simp [Tr.get, Tr.EA]
    | succ j =>
     simp only [Tr.get]
     rcases Nat.mod_two_eq_zero_or_one j with hj | hj
     ·rw [hj]; simp only [Nat.beq_refl]
      rw [ih' (j / 2), Tr.y9]
      have : 2 * (j / 2) + 1 = j + 1 := by omega
      rw [this]
      by_cases e : j = n
      ·subst e; simp
      ·have : j / 2 ≠ n / 2 := by omega
       simp [e, this]
     ·rw [hj]; simp only [show (1 : Nat).beq 0 = false from rfl]
      rw [Tr.vH]
      have : 2 * (j / 2) + 2 = j + 1 := by omega
      rw [this]
      have : j ≠ n := by omega
      simp [this]
   ·rw [hn]; simp only [show (1 : Nat).beq 0 = false from rfl]
    have ih' := ih t.right (n / 2) b (by rw [Nat.pow_succ] at h; omega)
    cases j with
    | zero => simp [Tr.get, Tr.EA]
    | succ j =>
     simp only [Tr.get]
     rcases Nat.mod_two_eq_zero_or_one j with hj | hj
     ·rw [hj]; simp only [Nat.beq_refl]
      rw [Tr.y9]
      have : 2 * (j / 2) + 1 = j + 1 := by omega
      rw [this]
      have : j ≠ n := by omega
      simp [this]
     ·rw [hj]; simp only [show (1 : Nat).beq 0 = false from rfl]
      rw [ih' (j / 2), Tr.vH]
      have : 2 * (j / 2) + 2 = j + 1 := by omega
      rw [this]
      by_cases e : j = n
      ·subst e; simp
      ·have : j / 2 ≠ n / 2 := by omega
       simp [e, this]
structure St where
 heap : Tr
 next : Nat
 rds : List Nat
 wrs : List Nat
 obs : List Bool
 orc : Option (List Bool)
inductive Res (α : Type) where
 | ok (a : α) (s : St)
 | bD (why : String)
 | ask (b : Bool)
def New (s s' : St) (id : Nat) : Prop := s.next ≤ id ∧ id < s'.next
structure Did {α : Type} (f : St → Res α) (s : St) (a : α) (s' : St) (r w : List Nat) (o : List Bool) : Prop where
 next : s.next ≤ s'.next
 rds : s'.rds = r ++ s.rds
 wrs : s'.wrs = w ++ s.wrs
 obs : s'.obs = o ++ s.obs
 rest : ∀ id, id ∉ w → ¬ New s s' id → s'.heap.get id = s.heap.get id
 dL : ∀ id, id ∈ w → s.heap.get id ≠ none ∨ New s s' id
 sJ : ∀ t : St, t.next = s.next → t.orc = s.orc → (∀ id, id ∈ r ∨ id ∈ w ∨ New s s' id → t.heap.get id = s.heap.get id) →
  ∃ t', f t = .ok a t' ∧ t'.next = s'.next ∧ t'.orc = s'.orc ∧ t'.rds = r ++ t.rds ∧ t'.wrs = w ++ t.wrs ∧ t'.obs = o ++ t.obs ∧
   (∀ id, id ∈ w ∨ New s s' id → t'.heap.get id = s'.heap.get id) ∧ (∀ id, id ∉ w → ¬ New s s' id → t'.heap.get id = t.heap.get id)
 orc : s.orc = none → s'.orc = none
 vU : ∀ id, id ∈ r → s.heap.get id ≠ none ∨ New s s' id
def Loc {α : Type} (f : St → Res α) : Prop := ∀ s a s', f s = .ok a s' → ∃ r w o, Did f s a s' r w o
structure M (α : Type) where
 run : St → Res α
 loc : Loc run
theorem P4 {α : Type} (a : α) : Loc (fun s => Res.ok a s) := by
 intro s a' s' h
 injection h with h1 h2
 subst h1; subst h2
 exact ⟨[], [], [], ⟨Nat.le_refl _, rfl, rfl, rfl, fun _ _ _ => rfl, fun _ h => (by cases h), fun t hn ho hg =>
  ⟨t, rfl, hn, ho, rfl, rfl, rfl, fun id hid => hg id (.inr hid), fun _ _ _ => rfl⟩, id, fun _ h => (by cases h)⟩⟩
def M.pure {α : Type} (a : α) : M α := ⟨fun s => .ok a s, P4 a⟩
theorem P5 {α : Type} {f : St → Res α} (h : ∀ s a s', f s ≠ .ok a s') : Loc f := fun s a s' e => absurd e (h s a s')
def bD {α : Type} (why : String) : M α := ⟨fun _ => .bD why, P5 (fun _ _ _ h => by cases h)⟩
def mD {α β : Type} (m : St → Res α) (f : α → M β) (s : St) : Res β :=
 match m s with
 | .ok a s => (f a).run s
 | .bD w => .bD w
 | .ask b => .ask b
theorem P7 {α β : Type} (m : M α) (f : α → M β) : Loc (mD m.run f) := by
 intro s b s2 h
 unfold mD at h
 cases hm : m.run s with
 | bD w => rw [hm] at h; cases h
 | ask b => rw [hm] at h; cases h
 | ok a s1 =>
  rw [hm] at h
  simp only at h
  obtain ⟨r1, w1, o1, d1⟩ := m.loc s a s1 hm
  obtain ⟨r2, w2, o2, d2⟩ := (f a).loc s1 b s2 h
  have n1 := d1.next
  have n2 := d2.next
  have fresh1 : ∀ id, New s s1 id → New s s2 id := fun id hid => ⟨hid.1, by have := hid.2; omega⟩
  have fresh2 : ∀ id, New s1 s2 id → New s s2 id := fun id hid => ⟨by have := hid.1; omega, hid.2⟩
  have split : ∀ id, New s s2 id → New s s1 id ∨ New s1 s2 id := fun id hid => by
   by_cases hlt : id < s1.next
   ·exact .inl ⟨hid.1, hlt⟩
   ·exact .inr ⟨by omega, hid.2⟩
  refine ⟨r2 ++ r1, w2 ++ w1, o2 ++ o1, ⟨by omega, by rw [d2.rds, d1.rds, List.append_assoc], by rw [d2.wrs, d1.wrs, List.append_assoc], by rw [d2.obs, d1.obs, List.append_assoc], ?_, ?_, ?_, fun h => d2.orc (d1.orc h), ?_⟩⟩
  ·intro id hw hn
   simp only [List.mem_append, not_or] at hw
   rw [d2.rest id hw.1 (fun x => hn (fresh2 id x)), d1.rest id hw.2 (fun x => hn (fresh1 id x))]
  ·intro id hw
   simp only [List.mem_append] at hw
   by_cases h1 : New s s1 id
   ·exact .inr (fresh1 id h1)
   by_cases hw1 : id ∈ w1
   ·rcases d1.dL id hw1 with h | h
    ·exact .inl h
    ·exact .inr (fresh1 id h)
   rcases hw with hw | hw
   ·rcases d2.dL id hw with h | h
    ·rw [d1.rest id hw1 h1] at h
     exact .inl h
    ·exact .inr (fresh2 id h)
   ·exact absurd hw hw1
  ·intro t hn ho hg
   obtain ⟨t1, e1, hn1, ho1, hr1, hw1, hob1, hg1, hk1⟩ := d1.sJ t hn ho (fun id hid => hg id (by
    rcases hid with h | h | h
    ·exact .inl (List.mem_append.2 (.inr h))
    ·exact .inr (.inl (List.mem_append.2 (.inr h)))
    ·exact .inr (.inr (fresh1 id h))))
   obtain ⟨t2, e2, hn2, ho2, hr2, hw2, hob2, hg2, hk2⟩ := d2.sJ t1 hn1 ho1 (fun id hid => by
    by_cases hc : id ∈ w1 ∨ New s s1 id
    ·exact hg1 id hc
    ·simp only [not_or] at hc
     rw [hk1 id hc.1 hc.2, d1.rest id hc.1 hc.2]
     refine hg id ?_
     rcases hid with h | h | h
     ·exact .inl (List.mem_append.2 (.inl h))
     ·exact .inr (.inl (List.mem_append.2 (.inl h)))
     ·exact .inr (.inr (fresh2 id h)))
   refine ⟨t2, ?_, hn2, ho2, by rw [hr2, hr1, List.append_assoc], by rw [hw2, hw1, List.append_assoc], by rw [hob2, hob1, List.append_assoc], ?_, ?_⟩
   ·unfold mD; rw [e1]; exact e2
   ·intro id hid
    by_cases hc : id ∈ w2 ∨ New s1 s2 id
    ·exact hg2 id hc
    ·simp only [not_or] at hc
     rw [hk2 id hc.1 hc.2, d2.rest id hc.1 hc.2]
     refine hg1 id ?_
     rcases hid with h | h
     ·rcases List.mem_append.1 h with h | h
      ·exact absurd h hc.1
      ·exact .inl h
     ·rcases split id h with h | h
      ·exact .inr h
      ·exact absurd h hc.2
   ·intro id hw hnw
    simp only [List.mem_append, not_or] at hw
    rw [hk2 id hw.1 (fun x => hnw (fresh2 id x)), hk1 id hw.2 (fun x => hnw (fresh1 id x))]
  ·intro id hr
   simp only [List.mem_append] at hr
   by_cases h1 : New s s1 id
   ·exact .inr (fresh1 id h1)
   rcases hr with hr | hr
   ·by_cases hw1 : id ∈ w1
    ·rcases d1.dL id hw1 with h | h
     ·exact .inl h
     ·exact .inr (fresh1 id h)
    ·rcases d2.vU id hr with h | h
     ·rw [d1.rest id hw1 h1] at h
      exact .inl h
     ·exact .inr (fresh2 id h)
   ·rcases d1.vU id hr with h | h
    ·exact .inl h
    ·exact .inr (fresh1 id h)
def M.bind {α β : Type} (m : M α) (f : α → M β) : M β := ⟨mD m.run f, P7 m f⟩
theorem M.aG {α β : Type} {m : M α} {f : α → M β} {s : St} {b : β} {s2 : St} (h : (m.bind f).run s = .ok b s2) :
  ∃ a s1, m.run s = .ok a s1 ∧ (f a).run s1 = .ok b s2 := by
 simp only [M.bind, mD] at h
 cases hm : m.run s with
 | bD w => rw [hm] at h; cases h
 | ask b => rw [hm] at h; cases h
 | ok a s1 => rw [hm] at h; exact ⟨a, s1, rfl, h⟩
def Tr.put (t : Tr) (n : Nat) (b : Option Blk) : Tr := Tr.set (Nat.log2 (n + 1) + 1) t n b
theorem Tr.oO (t : Tr) (n : Nat) (b : Option Blk) (j : Nat) : (t.put n b).get j = if j = n then b else t.get j := Tr.TY _ t n b Nat.lt_log2_self j
def CC (id : Nat) (s : St) : Res Blk :=
 match s.heap.get id with
 | some b => .ok b { s with rds := id :: s.rds }
 | none => .bD "no such block"
theorem TN (id : Nat) : Loc (CC id) := by
 intro s a s' h
 unfold CC at h
 cases hg : s.heap.get id with
 | none => rw [hg] at h; cases h
 | some b =>
  rw [hg] at h
  injection h with h1 h2
  subst h1; subst h2
  refine ⟨[id], [], [], ⟨Nat.le_refl _, rfl, rfl, rfl, fun _ _ _ => rfl, fun _ h => (by cases h), fun t hn ho hg' => ?_, fun h => h, fun id' hr => ?_⟩⟩
  ·refine ⟨{ t with rds := id :: t.rds }, ?_, hn, ho, rfl, rfl, rfl, fun id' h => ?_, fun _ _ _ => rfl⟩
   ·unfold CC; rw [hg' id (.inl (by simp)), hg]
   ·exact hg' id' (.inr h)
  ·have : id' = id := by simpa using hr
   subst this
   left; rw [hg]; simp
def eQ (id : Nat) : M Blk := ⟨CC id, TN id⟩
def wH (id : Nat) (b : Option Blk) (s : St) : Res Unit :=
 match s.heap.get id with
 | none => .bD "no such block to set"
 | some _ => .ok () { s with heap := s.heap.put id b, wrs := id :: s.wrs }
theorem wZ (id : Nat) (b : Option Blk) : Loc (wH id b) := by
 intro s a s' h
 unfold wH at h
 cases hg : s.heap.get id with
 | none => rw [hg] at h; cases h
 | some b0 =>
  rw [hg] at h
  injection h with _ h2
  subst h2
  have hset := fun (t : Tr) => Tr.oO t id b
  refine ⟨[], [id], [], ⟨Nat.le_refl _, rfl, rfl, rfl, ?_, ?_, ?_, fun h => h, fun _ h => (by cases h)⟩⟩
  ·intro id' hw _
   have : id' ≠ id := by simpa using hw
   simp only [hset, this, if_false]
  ·intro id' hw
   have : id' = id := by simpa using hw
   subst this
   left; rw [hg]; simp
  ·intro t hn ho hg'
   refine ⟨{ t with heap := t.heap.put id b, wrs := id :: t.wrs }, ?_, hn, ho, rfl, rfl, rfl, ?_, ?_⟩
   ·unfold wH; rw [hg' id (.inr (.inl (by simp))), hg]
   ·intro id' h
    rcases h with h | h
    ·have : id' = id := by simpa using h
     simp only [hset, this, if_true]
    ·exact absurd h (by simp only [New]; omega)
   ·intro id' hw _
    have : id' ≠ id := by simpa using hw
    simp only [hset, this, if_false]
def jW (id : Nat) (b : Blk) : M Unit := ⟨wH id (some b), wZ id (some b)⟩
def zO (id : Nat) : M Unit := ⟨wH id none, wZ id none⟩
def OS (b : Blk) (s : St) : Res Nat := .ok s.next { s with heap := s.heap.put s.next (some b), next := s.next + 1 }
theorem TL (b : Blk) : Loc (OS b) := by
 intro s a s' h
 unfold OS at h
 injection h with h1 h2
 subst h1; subst h2
 have hset := fun (t : Tr) => Tr.oO t s.next (some b)
 refine ⟨[], [], [], ⟨by simp, rfl, rfl, rfl, ?_, fun _ h => (by cases h), ?_, fun h => h, fun _ h => (by cases h)⟩⟩
 ·intro id' _ hn
  have : id' ≠ s.next := fun e => hn ⟨by omega, by simp; omega⟩
  simp only [hset, this, if_false]
 ·intro t hn ho hg'
  refine ⟨{ t with heap := t.heap.put s.next (some b), next := s.next + 1 }, ?_, rfl, ho, rfl, rfl, rfl, ?_, ?_⟩
  ·unfold OS; rw [hn]
  ·intro id' h
   rcases h with h | h
   ·cases h
   ·have : id' = s.next := by have := h.1; have := h.2; simp only at *; omega
    simp only [hset, this, if_true]
  ·intro id' _ hn'
   have : id' ≠ s.next := fun e => hn' ⟨by omega, by simp; omega⟩
   simp only [hset, this, if_false]
def pX (b : Blk) : M Nat := ⟨OS b, TL b⟩
def obF (b : Bool) (s : St) : Res Unit :=
 match b with
 | true => .ok () s
 | false => .ok () { s with obs := false :: s.obs }
theorem XV (b : Bool) : Loc (obF b) := by
 intro s a s' h
 cases b with
 | true =>
  injection h with h1 h2
  subst h2
  exact ⟨[], [], [], ⟨Nat.le_refl _, rfl, rfl, rfl, fun _ _ _ => rfl, fun _ h => (by cases h), fun t hn ho hg =>
   ⟨t, rfl, hn, ho, rfl, rfl, rfl, fun id hid => hg id (.inr hid), fun _ _ _ => rfl⟩, fun h => h, fun _ h => (by cases h)⟩⟩
 | false =>
  injection h with h1 h2
  subst h2
  exact ⟨[], [], [false], ⟨Nat.le_refl _, rfl, rfl, rfl, fun _ _ _ => rfl, fun _ h => (by cases h), fun t hn ho hg =>
   ⟨{ t with obs := false :: t.obs }, rfl, hn, ho, rfl, rfl, rfl, fun id hid => hg id (.inr hid), fun _ _ _ => rfl⟩, fun h => h, fun _ h => (by cases h)⟩⟩
def ob (b : Bool) : M Unit := ⟨obF b, XV b⟩
def FB (b : Bool) (s : St) : Res Bool :=
 match s.orc with
 | none => .ok b s
 | some [] => .ask b
 | some (o :: os) => .ok o { s with orc := some os, obs := (b == o) :: s.obs }
theorem TO (b : Bool) : Loc (FB b) := by
 intro s a s' h
 unfold FB at h
 cases ho : s.orc with
 | none =>
  rw [ho] at h
  injection h with h1 h2
  subst h1; subst h2
  exact ⟨[], [], [], ⟨Nat.le_refl _, rfl, rfl, rfl, fun _ _ _ => rfl, fun _ h => (by cases h), fun t hn ho' hg =>
   ⟨t, by unfold FB; rw [ho', ho], hn, ho', rfl, rfl, rfl, fun id hid => hg id (.inr hid), fun _ _ _ => rfl⟩, fun h => h, fun _ h => (by cases h)⟩⟩
 | some l =>
  rw [ho] at h
  cases l with
  | nil => cases h
  | cons x xs =>
   injection h with h1 h2
   subst h1; subst h2
   exact ⟨[], [], [b == x], ⟨Nat.le_refl _, rfl, rfl, rfl, fun _ _ _ => rfl, fun _ h => (by cases h), fun t hn ho' hg =>
    ⟨{ t with orc := some xs, obs := (b == x) :: t.obs }, by unfold FB; rw [ho', ho], hn, rfl, rfl, rfl, rfl, fun id hid => hg id (.inr hid), fun _ _ _ => rfl⟩, (fun h => by rw [ho] at h; cases h), fun _ h => (by cases h)⟩⟩
def ask (b : Bool) : M Bool := ⟨FB b, TO b⟩
def branch : a9 → M Bool
 | .fU b => M.pure b
 | .bool b => ask b
 | _ => bD "bool expected"
end Go.Am
set_option linter.unusedSimpArgs false
set_option linter.unusedVariables false
namespace Go.Am
open Go
structure RB where
 b : Nat
 n : Nat
 s : Nat
abbrev Ren := Nat → Option RB
abbrev Mem := Nat → Option Obj
def Mem.cell (m : Mem) (b off : Nat) : Option Value :=
 match m b with
 | some (.cells c _ _) => c[off]?
 | _ => none
inductive RF (ρ : Ren) : Fn → Fn → Prop
 | func (f : FuncId) : RF ρ (.func f) (.func f)
 | yield (id : Nat) (r : RB) (h : ρ id = some r) : RF ρ (.yield id) (.yield r.b)
inductive R (ρ : Ren) (m : Mem) : a9 → Value → Prop
 | bool (b : Bool) : R ρ m (.bool b) (.bool b)
 | fU (b : Bool) : R ρ m (.fU b) (.bool b)
 | int (k : IntKind) (n : Int) : R ρ m (.int k n) (.int k n)
 | str (l : List UInt8) : R ρ m (.str l) (.string ⟨⟨l⟩⟩)
 | dG : R ρ m .dG (.pointer none)
 | aN : R ρ m .aN (.slice none 0 0)
 | kZ : R ρ m .kZ (.map none)
 | cF : R ρ m .cF .nilFunc
 | zM : R ρ m .zM .nilIface
 | emp (a : Option Addr) : R ρ m .emp (.slice a 0 0)
 | ptr (id off : Nat) (r : RB) (h : ρ id = some r) : R ρ m (.ptr id off) (.pointer (some ⟨r.b, off, none⟩))
 | slx (id off len c sz : Nat) (r : RB) (h : ρ id = some r) (hl : len ≤ c) : R ρ m (.sl id off len (some c) sz) (.slice (some ⟨r.b, off, none⟩) len c)
 | slw (id off len c sz : Nat) (r : RB) (h : ρ id = some r) (hl : len ≤ c) (hs : r.s = sz) (hc : off + c * sz = r.n) : R ρ m (.sl id off len none sz) (.slice (some ⟨r.b, off, none⟩) len c)
 | sl0 (id off sz : Nat) (cap : Option Nat) (a : Addr) (hc : ∀ k, cap = some k → k = 0) (hn : cap = none → ∃ r, ρ id = some r ∧ r.n ≤ off) : R ρ m (.sl id off 0 cap sz) (.slice (some a) 0 0)
 | ip (f : Nat → a9) (n off b o : Nat) (g : Nat → Value) (hg : ∀ j, j < n → m.cell b (o + j) = some (g j)) (hr : ∀ j, j < n → R ρ m (f j) (g j)) : R ρ m (.ip f n off) (.pointer (some ⟨b, o + off, none⟩))
 | isl (f : Nat → a9) (sz off len b o c : Nat) (g : Nat → Value) (hg : ∀ j, j < off + len * sz → m.cell b (o + j) = some (g j)) (hr : ∀ j, j < off + len * sz → R ρ m (f j) (g j)) (hl : len ≤ c) : R ρ m (.isl f sz off len) (.slice (some ⟨b, o + off, none⟩) len c)
 | uA (f : Nat → a9) (sz off c : Nat) (a : Addr) : R ρ m (.isl f sz off 0) (.slice (some a) 0 c)
 | fn (f f' : Fn) (x y : List a9) (x' y' : Array Value) (hf : RF ρ f f') (hx : x.length = x'.size) (hy : y.length = y'.size)
   (rx : ∀ (i : Nat) v u, x[i]? = some v → x'[i]? = some u → R ρ m v u) (ry : ∀ (i : Nat) v u, y[i]? = some v → y'[i]? = some u → R ρ m v u) : R ρ m (.fn f x y) (.func f' x' y')
 | agg (l : List a9) (c : Array Value) (hl : l.length = c.size) (hr : ∀ (i : Nat) v x, l[i]? = some v → c[i]? = some x → R ρ m v x) : R ρ m (.agg l) (.agg c)
 | tup (l : List a9) (c : Array Value) (hl : l.length = c.size) (hr : ∀ (i : Nat) v x, l[i]? = some v → c[i]? = some x → R ρ m v x) : R ρ m (.tup l) (.tuple c)
 | map (id : Nat) (r : RB) (h : ρ id = some r) : R ρ m (.map id) (.map (some r.b))
 | aA (x : Value) : R ρ m .aA x
structure RL (ρ : Ren) (m : Mem) (l : List a9) (c : Array Value) : Prop where
 len : l.length = c.size
 at_ : ∀ (i : Nat) v x, l[i]? = some v → c[i]? = some x → R ρ m v x
structure MLe (m m' : Mem) : Prop where
 le : ∀ b c t f, m b = some (.cells c t f) → m' b = some (.cells c t f)
theorem Mem.J6 {m m' : Mem} (h : MLe m m') {b off : Nat} {v : Value} (hc : m.cell b off = some v) : m'.cell b off = some v := by
 unfold Mem.cell at *
 cases hb : m b with
 | none => rw [hb] at hc; cases hc
 | some o =>
  cases o with
  | cells c t f => rw [hb] at hc; rw [h.le b c t f hb]; exact hc
  | _ => rw [hb] at hc; cases hc
def gP (ρ ρ' : Ren) : Prop := ∀ id r, ρ id = some r → ρ' id = some r
theorem RF.mono {ρ ρ' : Ren} (h : gP ρ ρ') {f f' : Fn} (hf : RF ρ f f') : RF ρ' f f' := by
 cases hf with
 | func f => exact .func f
 | yield id r hr => exact .yield id r (h id r hr)
theorem R.mono {ρ ρ' : Ren} {m m' : Mem} (h : gP ρ ρ') (hm : MLe m m') {v : a9} {x : Value} (hr : R ρ m v x) : R ρ' m' v x := by
 induction hr with
 | bool b => exact .bool b
 | fU b => exact .fU b
 | int k n => exact .int k n
 | str l => exact .str l
 | dG => exact .dG
 | aN => exact .aN
 | kZ => exact .kZ
 | cF => exact .cF
 | zM => exact .zM
 | emp a => exact .emp a
 | ptr id off r hid => exact .ptr id off r (h id r hid)
 | slx id off len c sz r hid hl => exact .slx id off len c sz r (h id r hid) hl
 | slw id off len c sz r hid hl hs hc => exact .slw id off len c sz r (h id r hid) hl hs hc
 | sl0 id off sz cap a hc hn => exact .sl0 id off sz cap a hc (fun e => by obtain ⟨r, h1, h2⟩ := hn e; exact ⟨r, h id r h1, h2⟩)
 | ip f n off b o g hg hr ih => exact .ip f n off b o g (fun j hj => Mem.J6 hm (hg j hj)) ih
 | isl f sz off len b o c g hg hr hl ih => exact .isl f sz off len b o c g (fun j hj => Mem.J6 hm (hg j hj)) ih hl
 | uA f sz off c a => exact .uA f sz off c a
 | fn f f' x y x' y' hf hx hy rx ry ihx ihy => exact .fn f f' x y x' y' (hf.mono h) hx hy ihx ihy
 | agg l c hl hr ih => exact .agg l c hl ih
 | tup l c hl hr ih => exact .tup l c hl ih
 | map id r hid => exact .map id r (h id r hid)
 | aA x => exact .aA x
theorem RL.mono {ρ ρ' : Ren} {m m' : Mem} (h : gP ρ ρ') (hm : MLe m m') {l : List a9} {c : Array Value} (hr : RL ρ m l c) : RL ρ' m' l c :=
 ⟨hr.len, fun i v x hv hx => (hr.at_ i v x hv hx).mono h hm⟩
def UX (P : Program) (t : TypeId) (fr : Nat × Nat) (n : Nat) : Prop := fr.1 = fr.2 ∨ (n ≤ fr.1 ∧ P.underlying t = some (.int .u8))
theorem UX.out {P : Program} {t : TypeId} {fr : Nat × Nat} {n : Nat} (h : UX P t fr n) : ∀ j, j < n → ¬ (fr.1 ≤ j ∧ j < fr.2) := fun j hj ⟨a, b⟩ => by
 rcases h with h | h <;> omega
structure ME (ρ : Ren) (m : Mem) (e : a9 × a9 × Nat) (x : MapEntry) : Prop where
 key : R ρ m e.1 x.key
 val : R ρ m e.2.1 x.val
 born : x.born = e.2.2
inductive BR (P : Program) (ρ : Ren) (m : Mem) : RB → Blk → Obj → Prop
 | row (rb : RB) (c : bG) (elem : TypeId) (arr : Array Value) (fr : Nat × Nat) (hs : (P.info? elem).map (·.size) = some rb.s) (hn : arr.size = rb.n) (hc : c.size ≤ arr.size)
   (hr : ∀ j x, j < c.size → arr[j]? = some x → R ρ m (c.at j) x) (hf : UX P elem fr arr.size) : BR P ρ m rb (.row c elem) (.cells arr elem fr)
 | loop (rb : RB) (l : kS) (L : Loop) (h1 : L.state = l.state) (h2 : L.pending = l.pending) (h4 : RL ρ m l.tmps L.tmps) (h5 : L.params.toList = l.params)
   (h6 : L.assign = l.assign) (h7 : L.body = l.body) : BR P ρ m rb (.loop l) (.loop L)
 | mK (rb : RB) (s : List UInt8) (pos : Nat) : BR P ρ m rb (.mK s pos) (.stringIter ⟨⟨s⟩⟩ pos)
 | map (rb : RB) (es : List (a9 × a9 × Nat)) (ck : Nat) (arr : Array MapEntry) (hl : es.length = arr.size) (hr : ∀ (i : Nat) e x, es[i]? = some e → arr[i]? = some x → ME ρ m e x) : BR P ρ m rb (.map es ck) (.map arr ck)
 | hG (rb : RB) (id since : Nat) (seen : List Nat) (gL : Nat) (r : RB) (h : ρ id = some r) : BR P ρ m rb (.hG id since seen gL) (.mapIter (some r.b) since seen.toArray gL)
theorem BR.mono {P : Program} {ρ ρ' : Ren} {m m' : Mem} (h : gP ρ ρ') (hm : MLe m m') {rb : RB} {b : Blk} {o : Obj} (hb : BR P ρ m rb b o) : BR P ρ' m' rb b o := by
 cases hb with
 | row c elem arr fr hs hn hc hr hf => exact .row _ c elem arr fr hs hn hc (fun j x hj hx => (hr j x hj hx).mono h hm) hf
 | loop l L h1 h2 h4 h5 h6 h7 => exact .loop _ l L h1 h2 (h4.mono h hm) h5 h6 h7
 | mK s pos => exact .mK _ s pos
 | map es ck arr hl hr => exact .map _ es ck arr hl (fun i e x he hx => ⟨(hr i e x he hx).key.mono h hm, (hr i e x he hx).val.mono h hm, (hr i e x he hx).born⟩)
 | hG id since seen gL r hid => exact .hG _ id since seen gL r (h id r hid)
structure Rel (P : Program) (ρ : Ren) (m : Mem) (h : Nat → Option Blk) (w : World) : Prop where
 dL : ∀ id b, h id = some b → ∃ rb o, ρ id = some rb ∧ w.heap[rb.b]? = some o ∧ BR P ρ m rb b o ∧ m rb.b = none
 inj : ∀ i j b c r r', h i = some b → h j = some c → ρ i = some r → ρ j = some r' → r.b = r'.b → i = j
 mem : ∀ b o, m b = some o → w.heap[b]? = some o
theorem Rel.congr {P : Program} {ρ : Ren} {m : Mem} {h h' : Nat → Option Blk} {w : World} (hr : Rel P ρ m h w) (e : ∀ id, h' id = h id) : Rel P ρ m h' w := by
 have : h' = h := funext e
 rw [this]; exact hr
structure Fr (w w' : World) : Prop where
 os : w'.os = w.os
 tape : w'.tape = w.tape
 output : w'.output = w.output
 size : w.heap.size ≤ w'.heap.size
theorem Fr.refl (w : World) : Fr w w := ⟨rfl, rfl, rfl, Nat.le_refl _⟩
theorem Fr.trans {a b c : World} (h : Fr a b) (h' : Fr b c) : Fr a c := ⟨h'.os.trans h.os, h'.tape.trans h.tape, h'.output.trans h.output, Nat.le_trans h.size h'.size⟩
structure dV (P : Program) (ρ : Ren) (m : Mem) (s : St) (w : World) (ρ' : Ren) (m' : Mem) (s' : St) (w' : World) : Prop where
 ren : gP ρ ρ'
 new : ∀ id, ρ' id ≠ none → ρ id ≠ none ∨ New s s' id
 mem : ∀ b o, m b = some o → m' b = some o
 rel : Rel P ρ' m' s'.heap.get w'
 fr : Fr w w'
 next : s.next ≤ s'.next
theorem dV.mle {P : Program} {ρ ρ' : Ren} {m m' : Mem} {s s' : St} {w w' : World} (h : dV P ρ m s w ρ' m' s' w') : MLe m m' := ⟨fun b c t f hb => h.mem b _ hb⟩
def eC (ρ : Ren) (s s' : St) : Prop := ∀ id, New s s' id → ρ id = none
theorem dV.trans {P : Program} {ρ ρ1 ρ2 : Ren} {m m1 m2 : Mem} {s s1 s2 : St} {w w1 w2 : World} (a : dV P ρ m s w ρ1 m1 s1 w1) (b : dV P ρ1 m1 s1 w1 ρ2 m2 s2 w2) : dV P ρ m s w ρ2 m2 s2 w2 where
 ren := fun id r h => b.ren id r (a.ren id r h)
 new := fun id h => by
  have := a.next
  have := b.next
  rcases b.new id h with h | h
  ·rcases a.new id h with h | h
   ·exact .inl h
   ·exact .inr ⟨h.1, by have := h.2; omega⟩
  ·exact .inr ⟨by have := h.1; omega, h.2⟩
 mem := fun x o h => b.mem x o (a.mem x o h)
 rel := b.rel
 fr := a.fr.trans b.fr
 next := Nat.le_trans a.next b.next
theorem eC.fst {ρ : Ren} {s s1 s2 : St} (h : eC ρ s s2) (hn : s1.next ≤ s2.next) : eC ρ s s1 := fun id hid => h id ⟨hid.1, by have := hid.2; omega⟩
theorem eC.snd {P : Program} {ρ ρ1 : Ren} {m m1 : Mem} {s s1 s2 : St} {w w1 : World} (h : eC ρ s s2) (a : dV P ρ m s w ρ1 m1 s1 w1) : eC ρ1 s1 s2 := fun id hid => by
 have hs := a.next
 have h0 := h id ⟨by have := hid.1; omega, hid.2⟩
 cases e : ρ1 id with
 | none => rfl
 | some r =>
  rcases a.new id (by rw [e]; simp) with h1 | h1
  ·exact absurd h0 h1
  ·have := h1.2; have := hid.1; omega
theorem dV.same {P : Program} {ρ : Ren} {m : Mem} {s s' : St} {w : World} (h : Rel P ρ m s.heap.get w) (hh : ∀ id, s'.heap.get id = s.heap.get id) (hn : s'.next = s.next) : dV P ρ m s w ρ m s' w where
 ren := fun _ _ h => h
 new := fun _ h => .inl h
 mem := fun _ _ h => h
 rel := h.congr hh
 fr := .refl w
 next := by omega
def bT (s : St) : Prop := s.obs.all id = true
theorem bT.of {s s' : St} {o : List Bool} (h : bT s') (e : s'.obs = o ++ s.obs) : bT s := by
 unfold bT at *; rw [e, List.all_append, Bool.and_eq_true] at h; exact h.2
def FH (P : Program) (f : FuncId) (args : Array Value) (w : World) (K : Value → World → Prop) : Prop :=
 ((callFunc f args).run P w = .ok (.enter f args) w ∧ Calls P f args w fun e w' => ∃ v, e = .returned v ∧ K v w') ∨
 ∃ v w', (callFunc f args).run P w = .ok (.value v) w' ∧ K v w'
def lA (P : Program) (f : FuncId) (act : List a9 → M a9) : Prop :=
 ∀ args s v s', (act args).run s = .ok v s' → bT s' → ∀ ρ m w xs, Rel P ρ m s.heap.get w → eC ρ s s' → RL ρ m args xs →
  FH P f xs w fun x w' => ∃ ρ', dV P ρ m s w ρ' m s' w' ∧ R ρ' m v x
theorem M.aL {α β : Type} {mm : M α} {f : α → M β} {s : St} {b : β} {s2 : St} (h : (mm.bind f).run s = .ok b s2) (ho : bT s2) :
  ∃ a s1, mm.run s = .ok a s1 ∧ (f a).run s1 = .ok b s2 ∧ bT s1 ∧ s.next ≤ s1.next ∧ s1.next ≤ s2.next := by
 obtain ⟨a, s1, h1, h2⟩ := M.aG h
 obtain ⟨_, _, _, d1⟩ := mm.loc _ _ _ h1
 obtain ⟨_, _, _, d2⟩ := (f a).loc _ _ _ h2
 exact ⟨a, s1, h1, h2, ho.of d2.obs, d1.next, d2.next⟩
end Go.Am
set_option linter.unusedSimpArgs false
set_option linter.unusedVariables false
namespace Go.Am
open Go
def dD : a9 → Bool
  | .aA => true
  | _ => false
structure TI where
  desc : TypeDesc
  size : Nat
  bytes : Nat
  zero : a9
structure TOk (P : Program) (t : Nat) (i : TI) : Prop where
  GN : ∃ j z, P.info? t = some j ∧ j.size = i.size ∧ j.bytes = i.bytes ∧ j.zero = some z ∧ ofValue z = i.zero
  D3 : i.zero.cells.length = i.size
  zj : dD i.zero = false
  und : P.underlying t = some i.desc
structure TE (P : Program) where
  t : Nat
  i : TI
  ok : TOk P t i
structure FI where
  body : Code
  ntmps : Nat
  results : List ResultVar
  aM : Option (List Bool) := none
structure FOk (P : Program) (f : Nat) (i : FI) : Prop where
  fn : ∃ fn, P.funcs[f]? = some fn ∧ fn.body = some i.body ∧ fn.ntmps = i.ntmps ∧ fn.results.toList = i.results
  call : ∀ args w, (callFunc f args).run P w = .ok (.enter f args) w
structure FE (P : Program) where
  f : Nat
  i : FI
  ok : FOk P f i
inductive BT (α : Type) where
  | leaf (a : α)
  | node (m : Nat) (l r : BT α)
def BT.find {α : Type} : BT α → Nat → α
  | .leaf a, _ => a
  | .node m l r, n => match n.blt m with
    | true => l.find n
    | false => r.find n
structure uR (P : Program) where
  f : Nat
  act : List a9 → M a9
  ok : lA P f act
structure QE (P : Program) where
  t : Nat
  held : P.stoodInHeld t = false
  guard : P.eqGuardType P.depth t = false
abbrev Fw (o : Option Nat) : Fence := { Fence.wide with round := o }
def Mem.with (m : Mem) (D : List Nat) : Mem := fun b => if b ∈ D then some (.deferred (some [])) else m b
abbrev mk (r : Nat) : Deferred := { target := .collected r, args := #[] }
structure sK (m : Mem) (D : List Nat) : Prop where
  nodup : D.Nodup
  none : ∀ r ∈ D, m r = none
inductive eS where
  | normal | ret
  | exit (id : Nat)
inductive RX : eS → Exit → Prop
  | normal : RX .normal .normal
  | ret : RX .ret .ret
  | exit (id : Nat) : RX (.exit id) (.exit id)
inductive RN (ρ : Ren) : Option Nat → Option Nat → Prop
  | none : RN ρ none none
  | some (id : Nat) (r : RB) (h : ρ id = some r) : RN ρ (some id) (some r.b)
structure j6 (P : Program) (ρ : Ren) (m : Mem) (s : St) (w : World) (o : Option Nat) (a : Act) (e : eS) (tm' : List a9) (s' : St) (e' : Exit) (a' : Act) (w' : World) (ρ' : Ren) (D : List Nat) : Prop where
  fA : dV P ρ m s w ρ' (m.with D) s' w'
  tmps : RL ρ' (m.with D) tm' a'.tmps
  ex : RX e e'
  defers : a'.defers = D.map mk ++ a.defers
  tW : sK m D
  inRound : o ≠ none → D = []
def tE (P : Program) (rnd : Option Nat) (c : Code) (act : List a9 → M (eS × List a9)) : Prop :=
  ∀ tm e tm' s s', (act tm).run s = .ok (e, tm') s' → bT s' → ∀ ρ m w a o n (Q : Exit → Act → World → Prop), Rel P ρ m s.heap.get w → eC ρ s s' → RL ρ m tm a.tmps → RN ρ rnd o →
    (∀ e' a' w' ρ' D, j6 P ρ m s w o a e tm' s' e' a' w' ρ' D → Q e' a' w') → c.wpIn (Fw o) n P Q a w
structure pC (P : Program) where
  fn : Nat
  id : Nat
  c : Code
  act : List a9 → M (eS × List a9)
  ok : ∀ rnd, tE P rnd c act
open Classical in
noncomputable def fP {P : Program} : List (pC P) → FuncId → Nat → Code → Option (List a9 → M (eS × List a9))
  | [], _, _, _ => none
  | h :: l, fn, id, c => match h.fn.beq fn && h.id.beq id with
    | true => if h.c = c then some h.act else fP l fn id c
    | false => fP l fn id c
def k9 {P : Program} (l : List (pC P)) (fn : FuncId) (id : Nat) : Bool := l.all fun h => !(h.fn.beq fn && h.id.beq id)
theorem tA {P : Program} : ∀ {l : List (pC P)} {fn : FuncId} {id : Nat} {c : Code}, k9 l fn id = true → fP l fn id c = none
  | [], _, _, _, _ => rfl
  | h :: l, fn, id, c, q => by
    simp only [k9, List.all_cons, Bool.and_eq_true] at q
    unfold fP
    cases e : h.fn.beq fn && h.id.beq id with
    | true => rw [e] at q; cases q.1
    | false => exact tA q.2
theorem uM {P : Program} : ∀ {l : List (pC P)} {fn : FuncId} {id : Nat} {c : Code} {act : List a9 → M (eS × List a9)}, fP l fn id c = some act → ∀ rnd, tE P rnd c act
  | h :: l, fn, id, c, act, q, rnd => by
    unfold fP at q
    split at q
    · split at q
      · rename_i e
        injection q with q
        rw [← q, ← e]; exact h.ok rnd
      · exact uM q rnd
    · exact uM q rnd
structure Env where
  P : Program
  IG : P.follows .mixedOrders = true
  types : BT (TE P)
  funcs : BT (FE P)
  y7 : List (uR P)
  eqs : List (QE P)
  sQ : List (pC P) := []
  jB : List (pC P) := []
variable (E : Env)
def ti (t : TypeId) : M TI :=
  match (E.types.find t).t.beq t with
  | true => M.pure (E.types.find t).i
  | false => bD "no such type"
def und (t : TypeId) : M TypeDesc := (ti E t).bind fun i => M.pure i.desc
def sizeOf (t : TypeId) : M Nat := (ti E t).bind fun i => M.pure i.size
def j8 (t : TypeId) : M a9 := (ti E t).bind fun i => M.pure i.zero
def jG : TypeDesc → Bool
  | .struct _ => true
  | .array _ _ => true
  | _ => false
def eE {α : Type} (k : bG → TypeId → M α) : Blk → M α
  | .row c t => k c t
  | _ => bD "row expected"
def cC (v : a9) (n : Nat) : M (List a9) :=
  match v with
  | .ptr id off => (eQ id).bind (eE fun c _ => (ob ((off + n).ble c.size)).bind fun _ => M.pure (c.sub off n))
  | .ip f m off => (ob ((off + n).ble m)).bind fun _ => M.pure (cellsOf f off n)
  | _ => bD "address expected"
def IE : List a9 → M a9
  | [v] => M.pure v
  | _ => bD "one cell expected"
def load (t : TypeId) (a : a9) : M a9 :=
  (ti E t).bind fun i => match jG i.desc with
    | true => (cC a i.size).bind fun cs => M.pure (.agg cs)
    | false => (cC a 1).bind IE
def mT (c : bG) (off : Nat) : List a9 → bG
  | [] => c
  | v :: l => mT (c.set off v) (off + 1) l
def bB : a9 → Bool
  | .agg _ => false
  | .tup _ => false
  | .aA => false
  | _ => true
def dN (a : a9) (vs : List a9) : M Unit :=
  match a with
  | .ptr id off => (eQ id).bind (eE fun c t => (ob ((off + vs.length).ble c.size)).bind fun _ =>
      match vs.all bB with
      | true => jW id (.row (mT c off vs) t)
      | false => bD "a value of more cells than one")
  | _ => bD "an address that may be written expected"
def store (t : TypeId) (a v : a9) : M Unit :=
  (ti E t).bind fun i => match v.cells.length.beq i.size with
    | true => dN a v.cells
    | false => bD "store: size"
def newRow (t : TypeId) (cs : List a9) : M Nat := (ti E t).bind fun _ => pX (.row (.l cs) t)
def alloc (t : TypeId) (v : a9) : M a9 := match dD v with
  | true => bD "box: unknown value"
  | false => (newRow E t v.cells).bind fun id => M.pure (.ptr id 0)
def fill (place : Nat → Option (Nat × Nat)) (cells : List a9) : List (Nat × a9) → Option (List a9)
  | [] => some cells
  | (i, v) :: rest => match place i with
    | none => none
    | some (off, size) => match (dD v).not && v.cells.length.beq size && (off + v.cells.length).ble cells.length with
      | true => fill place (cells.take off ++ v.cells ++ cells.drop (off + v.cells.length)) rest
      | false => none
def wW : List Field → M (List (Nat × Nat))
  | [] => M.pure []
  | f :: l => (sizeOf E f.type).bind fun n => (wW l).bind fun r => M.pure ((f.offset, n) :: r)
def fV {α : Type} (why : String) : Option α → M α
  | some a => M.pure a
  | none => bD why
def build (t : TypeId) (parts : List (Nat × a9)) : M a9 :=
  (ti E t).bind fun i => match i.desc with
    | .struct fs => (wW E fs.toList).bind fun ps => (fV "build" (fill (ps[·]?) i.zero.cells parts)).bind fun cs => M.pure (.agg cs)
    | .array _ e => (sizeOf E e).bind fun n => (fV "build" (fill (fun i => some (i * n, n)) i.zero.cells parts)).bind fun cs => M.pure (.agg cs)
    | _ => bD "build: type"
def eY (z : List a9) : Nat → List a9
  | 0 => []
  | n + 1 => z ++ eY z n
def buildSlice (t : TypeId) (len : Nat) (parts : List (Nat × a9)) : M a9 :=
  (und E t).bind fun d => match d with
    | .slice e => (ti E e).bind fun i => match (len * i.size).ble 16777216 with
      | true => (fV "buildSlice" (fill (fun k => some (k * i.size, i.size)) (eY i.zero.cells len) parts)).bind fun cs =>
          (newRow E e cs).bind fun id => M.pure (.sl id 0 len (some len) i.size)
      | false => bD "buildSlice: too long"
    | _ => bD "buildSlice: type"
def aR (n : Nat) : a9 → M a9
  | .ptr id off => M.pure (.ptr id (off + n))
  | .ip g m off => M.pure (.ip g m (off + n))
  | _ => bD "address expected"
def fieldAddr (t : TypeId) (a : a9) (i : Nat) : M a9 :=
  (und E t).bind fun d => match d with
    | .struct fs => (fV "no such field" fs.toList[i]?).bind fun f => (sizeOf E f.type).bind fun n => match n.beq 0 with
      | true => bD "a field of size 0"
      | false => aR f.offset a
    | _ => bD "fieldAddr: struct expected"
def idx (i : Int) (len : Nat) : M Nat := (ob (decide (0 ≤ i ∧ i < (len : Int)))).bind fun _ => M.pure i.toNat
def fJ {α : Type} (k : Int → M α) : a9 → M α
  | .int _ n => k n
  | _ => bD "int expected"
def slK {α : Type} (k : Nat → Nat → Nat → Option Nat → Nat → M α) (k2 : (Nat → a9) → Nat → Nat → Nat → M α) : a9 → M α
  | .sl id off len cap sz => k id off len cap sz
  | .isl g sz off len => k2 g sz off len
  | _ => bD "slice expected"
def indexAddr (t : TypeId) (x i : a9) : M a9 :=
  (und E t).bind fun d => fJ (fun i => match d with
    | .array len e => (sizeOf E e).bind fun n => (idx i len).bind fun j => aR (j * n) x
    | .slice e => (sizeOf E e).bind fun n =>
      slK (fun id off len _ sz => match n.beq sz with
          | true => (idx i len).bind fun j => M.pure (.ptr id (off + j * n))
          | false => bD "indexAddr: size")
        (fun g sz off len => match n.beq sz with
          | true => (idx i len).bind fun j => M.pure (.ip g (off + len * sz) (off + j * n))
          | false => bD "indexAddr: size") x
    | _ => bD "indexAddr") i
def part (t : TypeId) (cs : List a9) (off : Nat) : M a9 :=
  (ti E t).bind fun i => match jG i.desc with
    | true => M.pure (.agg ((cs.drop off).take i.size))
    | false => fV "part" cs[off]?
def gK {α : Type} (k : List a9 → M α) : a9 → M α
  | .agg l => k l
  | _ => bD "struct or array expected"
def nD {α : Type} (k : List UInt8 → M α) : a9 → M α
  | .str l => k l
  | _ => bD "string expected"
def field (t : TypeId) (x : a9) (i : Nat) : M a9 :=
  (und E t).bind fun d => match d with
    | .struct fs => gK (fun cs => (fV "no such field" fs.toList[i]?).bind fun f => part E f.type cs f.offset) x
    | _ => bD "field"
def HH (s : List UInt8) (j : Nat) : UInt8 := s.getD j 0
def index (t : TypeId) (x i : a9) : M a9 :=
  (und E t).bind fun d => fJ (fun i => match d with
    | .array len e => gK (fun cs => (idx i len).bind fun j => (sizeOf E e).bind fun n => part E e cs (j * n)) x
    | .string => nD (fun s => (idx i s.length).bind fun j => M.pure (.int .u8 (HH s j).toNat)) x
    | _ => bD "index") i
def cL (v : Option a9) (dflt : Nat) (most : Nat) : M Nat :=
  match v with
  | none => M.pure dflt
  | some v => fJ (fun i => (ob (decide (0 ≤ i ∧ i ≤ (most : Int)))).bind fun _ => M.pure i.toNat) v
def cB {α : Type} (n sz : Nat) (k : M α) : M α := match n.beq sz with
  | true => k
  | false => bD "slice: size"
def lR (id off len n : Nat) (hi : Option a9) : M Nat :=
  match hi with
  | some (.int _ i) => match decide (i ≤ (len : Int)) with
    | true => M.pure len
    | false => (eQ id).bind (eE fun c _ => M.pure (max len ((c.size - off) / n)))
  | _ => M.pure len
def slice (t : TypeId) (x : a9) (lo hi mx : Option a9) : M a9 :=
  (und E t).bind fun d => match d with
    | .string => match mx with
      | none => nD (fun s => (cL hi s.length s.length).bind fun h => (cL lo 0 h).bind fun l => M.pure (.str ((s.take h).drop l))) x
      | some _ => bD "slice"
    | .slice e => (sizeOf E e).bind fun n => match mx with
      | none => match x with
        | .aN => (cL hi 0 0).bind fun h => (cL lo 0 h).bind fun _ => M.pure .aN
        | .emp => (cL hi 0 0).bind fun h => (cL lo 0 h).bind fun _ => M.pure .emp
        | .isl g sz off len => cB n sz ((cL hi len len).bind fun h => (cL lo 0 h).bind fun l => M.pure (.isl g sz (off + l * n) (h - l)))
        | .sl id off len cap sz => cB n sz (match cap with
          | some c => (cL hi len c).bind fun h => (cL lo 0 h).bind fun l => M.pure (.sl id (off + l * n) (h - l) (some (c - l)) sz)
          | none => (lR id off len n hi).bind fun most => (cL hi len most).bind fun h => (cL lo 0 h).bind fun l => M.pure (.sl id (off + l * n) (h - l) none sz))
        | _ => bD "slice"
      | some mx => match hi with
       | none => bD "slice"
       | some _ => match x with
        | .aN => (cL (some mx) 0 0).bind fun m => (cL hi 0 m).bind fun h => (cL lo 0 h).bind fun _ => M.pure .aN
        | .emp => (cL (some mx) 0 0).bind fun m => (cL hi 0 m).bind fun h => (cL lo 0 h).bind fun _ => M.pure .emp
        | .isl _ sz _ len => cB n sz ((cL (some mx) 0 0).bind fun m => (cL hi len m).bind fun h => (cL lo 0 h).bind fun _ => M.pure .emp)
        | .sl id off len cap sz => cB n sz ((cL (some mx) 0 (cap.getD len)).bind fun m => (cL hi len m).bind fun h => (cL lo 0 h).bind fun l =>
            M.pure (.sl id (off + l * n) (h - l) (some (m - l)) sz))
        | _ => bD "slice"
    | .array len e => (sizeOf E e).bind fun n => match mx with
      | none => (cL hi len len).bind fun h => (cL lo 0 h).bind fun l => match x with
        | .ptr id off => M.pure (.sl id (off + l * n) (h - l) (some (len - l)) n)
        | .ip g m off => (ob ((off + len * n).ble m)).bind fun _ => M.pure (.isl g n (off + l * n) (h - l))
        | _ => bD "slice"
      | some _ => bD "slice"
    | _ => bD "slice: type"
def lenOf : a9 → M Nat
  | .aN => M.pure 0
  | .emp => M.pure 0
  | .sl _ _ n _ _ => M.pure n
  | .isl _ _ _ n => M.pure n
  | .str s => M.pure s.length
  | _ => bD "len"
def fF : List UInt8 → List a9
  | [] => []
  | b :: l => .int .u8 b.toNat :: fF l
def cM (sz n : Nat) : a9 → M (List a9)
  | .aN => (ob (n.beq 0)).bind fun _ => M.pure []
  | .emp => (ob (n.beq 0)).bind fun _ => M.pure []
  | .sl id off len _ s => cB s sz ((eQ id).bind (eE fun c _ => (ob (n.ble len)).bind fun _ => (ob ((off + n * sz).ble c.size)).bind fun _ => M.pure (c.sub off (n * sz))))
  | .isl g s off len => cB s sz ((ob (n.ble len)).bind fun _ => M.pure (cellsOf g off (n * sz)))
  | .str s => cB sz 1 ((ob (n.ble s.length)).bind fun _ => M.pure (fF (s.take n)))
  | _ => bD "slice or string expected"
def room : Nat := 281474976710656
def iG (e : TypeId) (i : TI) (need : Nat) (cs : List a9) : M a9 :=
  (ob ((2 * need * i.bytes).ble room && need.ble room)).bind fun _ => (pX (.row (.l cs) e)).bind fun id => M.pure (.sl id 0 need none i.size)
def append (t : TypeId) (s x : a9) : M a9 :=
  (und E t).bind fun d => match d with
    | .slice e => (ti E e).bind fun i => (lenOf x).bind fun n => (ask (n.beq 0)).bind fun nothing => match nothing with
      | true => match s with
        | .aN => M.pure s
        | .emp => M.pure s
        | .sl _ _ _ _ _ => M.pure s
        | .isl _ _ _ _ => M.pure s
        | _ => bD "append: slice expected"
      | false => (cM i.size n x).bind fun xs => match s with
        | .aN => iG e i n xs
        | .emp => iG e i n xs
        | .sl id off len cap sz => cB sz i.size ((eQ id).bind (eE fun c t' => match cap with
          | some m => (ask ((len + n).ble m)).bind fun fits => match fits with
            | true => (dN (.ptr id (off + len * i.size)) xs).bind fun _ => M.pure (.sl id off (len + n) (some m) sz)
            | false => (cM i.size len s).bind fun ys => iG e i (len + n) (ys ++ xs)
          | none => (ask ((off + (len + n) * i.size).ble c.size)).bind fun fits => match fits with
            | true => (ob (Nat.blt 0 i.size)).bind fun _ => (dN (.ptr id (off + len * i.size)) xs).bind fun _ => M.pure (.sl id off (len + n) none sz)
            | false => match off.beq 0 && t'.beq e && xs.all bB with
              | true => (cM i.size len s).bind fun ys => (zO id).bind fun _ => iG e i (len + n) (ys ++ xs)
              | false => bD "append: a slice that begins within its block"))
        | _ => bD "append: slice expected"
    | _ => bD "append: type"
def xD (t : TypeId) (s : a9) (k : Int) : M a9 :=
  (und E t).bind fun d => match d with
    | .slice e => (ti E e).bind fun i => match s with
      | .sl id off len cap sz => match cap with
        | some m => cB sz i.size ((ob (decide (0 < k ∧ m < len + k.toNat ∧ 0 < i.size ∧ i.zero.cells.all bB = true))).bind fun _ =>
            (cM i.size len (.sl id off len (some m) sz)).bind fun ys => iG e i (len + k.toNat) (ys ++ eY i.zero.cells k.toNat))
        | none => bD "append of a make"
      | _ => bD "append of a make"
    | _ => bD "append: type"
def copy (t : TypeId) (dst src : a9) : M a9 :=
  (und E t).bind fun d => match d with
    | .slice e => (lenOf src).bind fun n1 => (lenOf dst).bind fun n2 => (sizeOf E e).bind fun sz => (ask ((min n1 n2).beq 0)).bind fun nothing => match nothing with
      | true => match dst with
        | .str _ => bD "copy"
        | _ => M.pure (.int .i64 0)
      | false => (cM sz (min n1 n2) src).bind fun cs => match dst with
        | .sl id off _ _ s => cB s sz ((dN (.ptr id off) cs).bind fun _ => M.pure (.int .i64 (min n1 n2 : Nat)))
        | _ => bD "copy"
    | _ => bD "copy: type"
def makeSlice (t : TypeId) (l c : a9) : M a9 :=
  (und E t).bind fun d => match d with
    | .slice e => (ti E e).bind fun i => fJ (fun l => fJ (fun c =>
        (ob (decide (0 ≤ l ∧ l ≤ c ∧ c ≤ 9223372036854775807 ∧ (i.bytes : Int) * c ≤ 281474976710656))).bind fun _ =>
        (newRow E e (eY i.zero.cells c.toNat)).bind fun id => M.pure (.sl id 0 l.toNat (some c.toNat) i.size)) c) l
    | _ => bD "makeSlice"
def bZ (k : IntKind) (n : Int) : a9 := .int k (k.wrap n)
def intOp (op : BinOp) (k : IntKind) (a b : Int) : M a9 :=
  match op with
  | .add => M.pure (bZ k (a + b))
  | .sub => M.pure (bZ k (a - b))
  | .mul => M.pure (bZ k (a * b))
  | .quo => (ob (decide (b ≠ 0))).bind fun _ => M.pure (bZ k (a.tdiv b))
  | .rem => (ob (decide (b ≠ 0))).bind fun _ => M.pure (.int k (a.tmod b))
  | .and => M.pure (bZ k (BitVec.ofInt k.bits a &&& BitVec.ofInt k.bits b).toNat)
  | .or => M.pure (bZ k (BitVec.ofInt k.bits a ||| BitVec.ofInt k.bits b).toNat)
  | .xor => M.pure (bZ k (BitVec.ofInt k.bits a ^^^ BitVec.ofInt k.bits b).toNat)
  | .andNot => M.pure (bZ k (BitVec.ofInt k.bits a &&& ~~~ BitVec.ofInt k.bits b).toNat)
  | .shl => bD "intOp"
  | .shr => bD "intOp"
  | .eql => M.pure (.bool (a == b))
  | .neq => M.pure (.bool (a != b))
  | .lss => M.pure (.bool (decide (a < b)))
  | .leq => M.pure (.bool (decide (a ≤ b)))
  | .gtr => M.pure (.bool (decide (a > b)))
  | .geq => M.pure (.bool (decide (a ≥ b)))
def strOp (op : BinOp) (x y : List UInt8) : M a9 :=
  match op with
  | .add => (ob (decide (((x.length + y.length : Nat) : Int) ≤ 9223372036854775807))).bind fun _ => M.pure (.str (x ++ y))
  | .eql => M.pure (.bool (x == y))
  | .neq => M.pure (.bool (!(x == y)))
  | .lss => M.pure (.bool (Op.bytesLess x y))
  | .leq => M.pure (.bool (Op.bytesLess x y || x == y))
  | .gtr => M.pure (.bool (!(Op.bytesLess x y || x == y)))
  | .geq => M.pure (.bool (!(Op.bytesLess x y)))
  | _ => bD "strOp"
def wQ {α : Type} (f : α → M Bool) : List α → M Bool
  | [] => M.pure true
  | x :: l => (f x).bind fun a => (wQ f l).bind fun b => M.pure (a && b)
def eO : a9 → M Bool
  | .bool b => M.pure b
  | .fU b => M.pure b
  | _ => bD "bool expected"
def eN : a9 → M Bool
  | .dG => M.pure true
  | .ptr _ _ => M.pure false
  | .ip _ _ _ => M.pure false
  | _ => bD "pointer expected"
def gN : a9 → M Bool
  | .cF => M.pure true
  | .fn _ _ _ => M.pure false
  | _ => bD "function expected"
def sF : a9 → M Bool
  | .aN => M.pure true
  | .sl _ _ _ _ _ => M.pure false
  | .isl _ _ _ _ => M.pure false
  | _ => bD "slice expected"
def BY : a9 → M Bool
  | .kZ => M.pure true
  | .map _ => M.pure false
  | _ => bD "map expected"
def zR (l : List (QE E.P)) (t : Nat) : Bool :=
  match l with
  | [] => false
  | q :: l => q.t.beq t || zR l t
def equal : (depth : Nat) → TypeId → a9 → a9 → M Bool
  | 0, _, _, _ => bD "equal: depth"
  | d + 1, t, x, y => (und E t).bind fun u => match u with
    | .bool => (eO x).bind fun a => (eO y).bind fun b => M.pure (a == b)
    | .int _ => match x with
      | .int k a => match y with
        | .int k' b => match decide (k = k') with
          | true => M.pure (a == b)
          | false => bD "equal: kinds"
        | _ => bD "equal"
      | _ => bD "equal"
    | .string => nD (fun a => nD (fun b => M.pure (a == b)) y) x
    | .pointer _ => (eN x).bind fun a => (eN y).bind fun b => match a || b with
      | true => M.pure (a && b)
      | false => bD "equal: pointers"
    | .func _ _ _ => (gN x).bind fun a => (gN y).bind fun b => match a || b with
      | true => M.pure (a && b)
      | false => bD "equal: functions"
    | .slice _ => (sF x).bind fun a => (sF y).bind fun b => match a || b with
      | true => M.pure (a && b)
      | false => bD "equal: slices"
    | .map _ _ => (BY x).bind fun a => (BY y).bind fun b => match a || b with
      | true => M.pure (a && b)
      | false => bD "equal: maps"
    | .struct fs => match zR E E.eqs t with
      | true => gK (fun xs => gK (fun ys => wQ (fun (f : Field) => match decide (f.name = "_") with
          | true => M.pure true
          | false => (part E f.type xs f.offset).bind fun a => (part E f.type ys f.offset).bind fun b => equal d f.type a b) fs.toList) y) x
      | false => bD "equal: struct"
    | .array len e => match zR E E.eqs t with
      | true => gK (fun xs => gK (fun ys => (sizeOf E e).bind fun n => wQ (fun i => (part E e xs (i * n)).bind fun a => (part E e ys (i * n)).bind fun b => equal d e a b) (List.range len)) y) x
      | false => bD "equal: array"
    | _ => bD "equal: type"
def bS (t : TypeId) (x y : a9) : M Bool := equal E 100 t x y
def BJ (op : BinOp) (k : IntKind) (a b : Int) : M a9 :=
  (ob (decide (0 ≤ b))).bind fun _ => match op with
    | .shl => M.pure (bZ k (a * 2 ^ (min b.toNat k.bits)))
    | .shr => M.pure (.int k (a.fdiv (2 ^ (min b.toNat k.bits))))
    | _ => bD "shift"
def fG : BinOp → Bool
  | .shl => true
  | .shr => true
  | _ => false
def bL (op : BinOp) (t : TypeId) (x y : a9) : M a9 :=
  match op with
  | .eql => (bS E t x y).bind fun b => M.pure (.bool b)
  | .neq => (bS E t x y).bind fun b => M.pure (.bool (!b))
  | _ => bD "binOp"
def fC (op : BinOp) (k : IntKind) (a : Int) : a9 → M a9
  | .int k' b => match fG op with
    | true => BJ op k a b
    | false => match decide (k = k') with
      | true => intOp op k a b
      | false => bD "binOp: kinds"
  | _ => bD "binOp"
def binOp (op : BinOp) (t : TypeId) (x y : a9) : M a9 :=
  match x with
  | .int k a => fC op k a y
  | .str a => nD (fun b => strOp op a b) y
  | x => bL E op t x y
def unOp (op : UnOp) (x : a9) : M a9 :=
  match op with
  | .neg => match x with
    | .int k n => M.pure (bZ k (0 - n))
    | _ => bD "unOp"
  | .xor => match x with
    | .int k n => intOp .xor k (if k.signed then -1 else k.max) n
    | _ => bD "unOp"
  | .not => match x with
    | .bool b => M.pure (.bool (!b))
    | .fU b => M.pure (.fU (!b))
    | _ => bD "unOp"
  | .plus => bD "unOp"
def qC : a9 → Bool
  | .int .u8 _ => true
  | _ => false
def iV : a9 → UInt8
  | .int _ n => UInt8.ofNat n.toNat
  | _ => 0
def pE : TypeDesc → Bool
  | .int .u8 => true
  | _ => false
def fT (e : TypeId) (x : a9) : M a9 :=
  (und E e).bind fun u => match pE u with
    | true => (lenOf x).bind fun n => (cM 1 n x).bind fun cs => (ob (cs.all qC)).bind fun _ => M.pure (.str (cs.map iV))
    | false => bD "convert: slice"
def A0 (id : Nat) : M Unit := (eQ id).bind fun b => jW id b
def convert (src dst : TypeId) (x : a9) : M a9 :=
  (und E src).bind fun s => (und E dst).bind fun d => match d with
    | .int k => fJ (fun n => M.pure (bZ k n)) x
    | .string => match s with
      | .string => nD (fun l => M.pure (.str l)) x
      | .slice e => match x with
        | .str _ => bD "convert"
        | x => fT E e x
      | _ => bD "convert"
    | .slice e => (und E e).bind fun u => match pE u with
      | true => match s with
        | .string => nD (fun l => (sizeOf E e).bind fun n => cB n 1 ((newRow E e (fF l)).bind fun id => M.pure (.sl id 0 l.length none 1))) x
        | .slice _ => match src.beq dst with
          | true => match x with
            | .sl id off len cap sz => (eQ id).bind (eE fun c t => (ob ((match cap with | some k => Nat.blt 0 k | none => off.blt c.size) && t.beq e)).bind fun _ => (A0 id).bind fun _ => M.pure (.sl id off len cap sz))
            | _ => bD "convert"
          | false => bD "convert"
        | _ => bD "convert"
      | false => bD "convert"
    | _ => bD "convert"
def extract (x : a9) (i : Nat) : M a9 :=
  match x with
  | .tup l => fV "extract" l[i]?
  | _ => bD "extract: tuple expected"
def min2 (x y : a9) : M a9 :=
  match x with
  | .int k a => fJ (fun b => M.pure (.int k (if b < a then b else a))) y
  | _ => bD "min"
def max2 (x y : a9) : M a9 :=
  match x with
  | .int k a => fJ (fun b => M.pure (.int k (if a < b then b else a))) y
  | _ => bD "max"
def CD (f : a9 → a9 → M a9) (x : a9) : List a9 → M a9
  | [] => M.pure x
  | y :: l => (f x y).bind fun z => CD f z l
def range (t : TypeId) (x : a9) : M a9 :=
  (und E t).bind fun d => match d with
    | .string => nD (fun s => (pX (.mK s 0)).bind fun id => M.pure (.ptr id 0)) x
    | .map _ _ => match x with
      | .map id => (eQ id).bind fun b => match b with
        | .map _ ck => (pX (.hG id ck [] ck)).bind fun it => M.pure (.ptr it 0)
        | _ => bD "range"
      | _ => bD "range"
    | _ => bD "range"
def V1 (id : Nat) : Blk → M a9
  | .mK s pos => (ask (pos.blt s.length)).bind fun more => match more with
    | true => (jW id (.mK s (pos + (Utf8.decode ⟨⟨s⟩⟩ pos).2))).bind fun _ => M.pure (.tup [.fU true, .int .i64 pos, .int .i32 (Utf8.decode ⟨⟨s⟩⟩ pos).1])
    | false => M.pure (.tup [.fU false])
  | _ => bD "next"
def next (x : a9) : M a9 :=
  match x with
  | .ptr id off => match off.beq 0 with
    | true => (eQ id).bind (V1 id)
    | false => bD "next"
  | _ => bD "next"
def opd (tm : List a9) : Operand → a9
  | .tmp t => nth tm t undef
  | .const v => ofValue v
  | .global _ => .aA
  | .func f => .fn (.func f) [] []
def fH (tm : List a9) : List Operand → List a9
  | [] => []
  | x :: l => opd tm x :: fH tm l
abbrev Rec := FuncId → Option Nat → Code → List a9 → M (eS × List a9)
variable (rec : Rec)
def dK (tm : List a9) : List ResultVar → M (List a9)
  | [] => M.pure []
  | r :: l => match r with
    | .tmp t => (dK tm l).bind fun r => M.pure (nth tm t undef :: r)
    | .cell a t => (load E t (nth tm a undef)).bind fun v => (dK tm l).bind fun r => M.pure (v :: r)
def dT : List a9 → a9
  | [v] => v
  | l => .tup l
def ended (tm : List a9) (rs : List ResultVar) : M a9 := (dK E tm rs).bind fun r => M.pure (dT r)
def bH (f : FuncId) (args : List a9) : M a9 :=
  match (E.funcs.find f).f.beq f with
  | true => (rec f none (E.funcs.find f).i.body (args ++ List.replicate ((E.funcs.find f).i.ntmps - args.length) undef)).bind fun r => match r.1 with
    | .exit _ => bD "left by an exit"
    | .normal => ended E r.2 (E.funcs.find f).i.results
    | .ret => ended E r.2 (E.funcs.find f).i.results
  | false => bD "no such function"
def qD (l : List (uR E.P)) (f : FuncId) (args : List a9) (k : M a9) : M a9 :=
  match l with
  | [] => k
  | h :: l => match h.f.beq f with
    | true => h.act args
    | false => qD l f args k
def fX (f : FuncId) (args : List a9) : M a9 := qD E E.y7 f args (bH E rec f args)
def nL {α : Type} (k : kS → M α) : Blk → M α
  | .loop l => k l
  | _ => bD "loop expected"
def lT (tm : List a9) : List (Tmp × a9) → List a9
  | [] => tm
  | (t, v) :: l => lT (put tm t v) l
def vD : eS → Option Code
  | .normal => none
  | .ret => some .ret
  | .exit id => some (.exit id)
def vW : eS → Bool
  | .normal => true
  | _ => false
def tG (id : Nat) (args : List a9) : M a9 :=
  (eQ id).bind (nL fun l => match args.length.beq l.params.length with
    | false => bD "yield: arguments"
    | true => match l.state with
      | .ready => (rec l.fn (some id) l.assign (lT l.tmps (l.params.zip args))).bind fun r => match r.1 with
        | .normal => (eQ id).bind (nL fun l2 => match l2.state with
          | .ready => (jW id (.loop { l2 with state := .busy })).bind fun _ => (rec l.fn (some id) l.body r.2).bind fun r2 =>
              (eQ id).bind (nL fun l3 => (jW id (.loop { l3 with state := (match vW r2.1 with | true => .ready | false => .done), pending := vD r2.1 })).bind fun _ =>
                M.pure (.fU (vW r2.1)))
          | _ => bD "yield: not ready")
        | _ => bD "assign"
      | _ => bD "yield: not ready")
def jQ (f : a9) (args : List a9) : M a9 :=
  match f with
  | .fn g first cap => match g with
    | .func g => fX E rec g (first ++ args ++ cap)
    | .yield id => match first with
      | [] => tG rec id args
      | _ => bD "call"
    | _ => bD "call"
  | _ => bD "call"
def cA (ts : List TypeId) (x : a9) : M a9 :=
  match ts with
  | t :: _ => (und E t).bind fun d => match d with
    | .array n _ => M.pure (.int .i64 n)
    | .pointer a => (und E a).bind fun d => match d with
      | .array n _ => M.pure (.int .i64 n)
      | _ => bD "len"
    | .string => nD (fun s => M.pure (.int .i64 s.length)) x
    | .slice _ => match x with
      | .str _ => bD "len"
      | x => (lenOf x).bind fun n => M.pure (.int .i64 n)
    | .map _ _ => match x with
      | .kZ => M.pure (.int .i64 0)
      | .map id => (eQ id).bind fun b => match b with
        | .map es _ => M.pure (.int .i64 (es.length : Nat))
        | _ => bD "len"
      | _ => bD "len"
    | _ => bD "len"
  | [] => bD "len"
abbrev Ent := a9 × a9 × Nat
def l8 {α : Type} (k : List Ent → Nat → M α) : Blk → M α
  | .map es ck => k es ck
  | _ => bD "map expected"
def pQ : a9 → a9 → Bool
  | .int k a, .int j b => decide (k = j) && a == b
  | .str a, .str b => a == b
  | _, _ => false
def wR : List a9 → List a9 → Bool
  | [], [] => true
  | a :: x, b :: y => pQ a b && wR x y
  | _, _ => false
def jK : a9 → a9 → Bool
  | .agg a, .agg b => wR a b
  | .int k a, .int j b => pQ (.int k a) (.int j b)
  | .str a, .str b => pQ (.str a) (.str b)
  | _, _ => false
def CW {α : Type} (f : α → M Unit) : List α → M Unit
  | [] => M.pure ()
  | x :: l => (f x).bind fun _ => CW f l
def iX : Nat → TypeId → a9 → M Unit
  | 0, _, _ => bD "key: depth"
  | d + 1, t, v => (und E t).bind fun u => match u with
    | .bool => M.pure ()
    | .int _ => M.pure ()
    | .string => M.pure ()
    | .struct fs => gK (fun xs => CW (fun (f : Field) => match decide (f.name = "_") with
        | true => M.pure ()
        | false => (part E f.type xs f.offset).bind fun a => iX d f.type a) fs.toList) v
    | .array n e => gK (fun xs => (sizeOf E e).bind fun z => CW (fun i => (part E e xs (i * z)).bind fun a => iX d e a) (List.range n)) v
    | _ => bD "key: type"
def m8 (t : TypeId) (k : a9) : List Ent → Nat → M (Option (Nat × a9))
  | [], _ => M.pure none
  | e :: es, i => (bS E t k e.1).bind fun b => match b with
    | true => M.pure (some (i, e.2.1))
    | false => m8 t k es (i + 1)
def GZ : a9 → M (List Ent)
  | .kZ => M.pure []
  | .map id => (eQ id).bind (l8 fun es _ => M.pure es)
  | _ => bD "map expected"
def okV (ok : Bool) (v : a9) (is : Bool) : a9 := match ok with
  | true => .tup [v, .fU is]
  | false => v
def iS (t : TypeId) (x k : a9) (ok : Bool) : M a9 :=
  (und E t).bind fun d => match d with
    | .map kt et => (GZ x).bind fun es => (iX E 100 kt k).bind fun _ => (m8 E kt k es 0).bind fun r => match r with
      | some p => M.pure (okV ok p.2 true)
      | none => (j8 E et).bind fun z => M.pure (okV ok z false)
    | _ => bD "lookup"
def pO (es : List Ent) (i : Nat) (v : a9) : List Ent := es.modify i fun e => (e.1, v, e.2.2)
def iR (t : TypeId) (x k : a9) : M a9 :=
  (und E t).bind fun d => match d with
    | .map kt et => match x with
      | .map id => (eQ id).bind (l8 fun es ck => (iX E 100 kt k).bind fun _ => (m8 E kt k es 0).bind fun r => match r with
        | some p => (fV "entry" es[p.1]?).bind fun e => match jK e.1 k with
          | true => (jW id (.map es ck)).bind fun _ => M.pure (.tup [p.2, .int .i64 e.2.2])
          | false => bD "a key that is not the same bit by bit"
        | none => (j8 E et).bind fun z => (jW id (.map (es ++ [(k, z, ck)]) (ck + 1))).bind fun _ => M.pure (.tup [z, .int .i64 ck]))
      | _ => bD "mapEntry"
    | _ => bD "mapEntry"
def tC (n : Int) : List Ent → Nat → Option Nat
  | [], _ => none
  | e :: es, i => match ((e.2.2 : Int) == n) with
    | true => some i
    | false => tC n es (i + 1)
def gO (x st v : a9) : M a9 :=
  match x with
  | .map id => (eQ id).bind (l8 fun es ck => fJ (fun n => (fV "entryStore" (tC n es 0)).bind fun i => (jW id (.map (pO es i v) ck)).bind fun _ => M.pure undef) st)
  | _ => bD "entryStore"
def kB (t : TypeId) (x k v : a9) : M a9 :=
  (und E t).bind fun d => match d with
    | .map kt et => match x with
      | .map id => (eQ id).bind (l8 fun es ck => (iX E 100 kt k).bind fun _ => (m8 E kt k es 0).bind fun r => match r with
        | some p => (fV "entry" es[p.1]?).bind fun e => match jK e.1 k with
          | true => (jW id (.map (pO es p.1 v) ck)).bind fun _ => M.pure undef
          | false => bD "a key that is not the same bit by bit"
        | none => (jW id (.map (es ++ [(k, v, ck)]) (ck + 1))).bind fun _ => M.pure undef)
      | _ => bD "mapUpdate"
    | _ => bD "mapUpdate"
def pZ (r : Option a9) : M a9 :=
  match r with
  | none => (pX (.map [] 0)).bind fun id => M.pure (.map id)
  | some _ => bD "makeMap"
def CJ (x : a9) : M a9 :=
  match x with
  | .ptr id off => match off.beq 0 with
    | true => (eQ id).bind fun b => match b with
      | .hG mm _ seen gL => (eQ mm).bind fun c => match c with
        | .map es ck => match ck.beq gL with
          | true => (fV "entry" seen.getLast?).bind fun st => (fV "entry" (es.find? fun e => e.2.2.beq st)).bind fun e => M.pure (.tup [e.1, e.2.1])
          | false => bD "entry"
        | _ => bD "entry"
      | _ => bD "entry"
    | false => bD "entry"
  | _ => bD "entry"
def uO (ts : List TypeId) (x k : a9) : M a9 :=
  match ts with
  | t :: _ => (und E t).bind fun d => match d with
    | .map kt _ => match x with
      | .map id => (eQ id).bind (l8 fun es ck => (iX E 100 kt k).bind fun _ => (m8 E kt k es 0).bind fun r => match r with
        | some p => (jW id (.map (es.eraseIdx p.1) ck)).bind fun _ => M.pure (.tup [])
        | none => (jW id (.map es ck)).bind fun _ => M.pure (.tup []))
      | _ => bD "delete"
    | _ => bD "delete"
  | [] => bD "delete"
def sV : TypeDesc → Bool
  | .int _ => true
  | _ => false
def fD (ts : List TypeId) (s x : a9) : M a9 :=
  match ts with
  | t :: t2 :: _ => (und E t2).bind fun d => match sV d with
    | true => match ts with
      | _ :: _ :: [] => fJ (xD E t s) x
      | _ => bD "append of a make"
    | false => append E t s x
  | _ => bD "append"
def B5 (ts : List TypeId) (x y : a9) : M a9 :=
  match ts with
  | t :: _ => copy E t x y
  | [] => bD "copy"
def R2 : a9 → M Nat
  | .aN => M.pure 0
  | .emp => M.pure 0
  | .sl _ _ _ cap _ => match cap with
    | some c => M.pure c
    | none => bD "cap: not known"
  | _ => bD "cap"
def UO (ts : List TypeId) (x : a9) : M a9 :=
  match ts with
  | t :: _ => (und E t).bind fun d => match d with
    | .slice _ => (R2 x).bind fun n => M.pure (.int .i64 n)
    | _ => bD "cap"
  | [] => bD "cap"
def qR (ts : List TypeId) (x : a9) : M a9 :=
  match ts with
  | t :: _ => (und E t).bind fun d => match d with
    | .slice e => match x with
      | .aN => M.pure (.tup [])
      | .emp => M.pure (.tup [])
      | .sl id off len _ sz => (ask (len.beq 0)).bind fun nothing => match nothing with
        | true => M.pure (.tup [])
        | false => (ti E e).bind fun i => cB i.size sz ((dN (.ptr id off) (eY i.zero.cells len)).bind fun _ => M.pure (.tup []))
      | _ => bD "clear"
    | .map _ _ => match x with
      | .kZ => M.pure (.tup [])
      | .map id => (eQ id).bind (l8 fun _ ck => (jW id (.map [] ck)).bind fun _ => M.pure (.tup []))
      | _ => bD "clear"
    | _ => bD "clear"
  | [] => bD "clear"
def rZ (k : a9 → M a9) : List a9 → M a9
  | [x] => k x
  | _ => bD "one argument expected"
def rW (k : a9 → a9 → M a9) : List a9 → M a9
  | [x, y] => k x y
  | _ => bD "two arguments expected"
def A2 (k : a9 → List a9 → M a9) : List a9 → M a9
  | x :: l => k x l
  | [] => bD "an argument expected"
def builtin (b : Builtin) (ts : List TypeId) (args : List a9) : M a9 :=
  match b with
  | .len => rZ (cA E ts) args
  | .append => rW (fD E ts) args
  | .copy => rW (B5 E ts) args
  | .min => A2 (CD min2) args
  | .max => A2 (CD max2) args
  | .cap => rZ (UO E ts) args
  | .clear => rZ (qR E ts) args
  | .delete => rW (uO E ts) args
  | _ => bD "builtin"
def zK (tm : List a9) : List (Nat × Operand) → List (Nat × a9)
  | [] => []
  | p :: l => (p.1, opd tm p.2) :: zK tm l
def opt (tm : List a9) : Option Operand → Option a9
  | none => none
  | some x => some (opd tm x)
def bE (t a b : a9) : M a9 := (branch t).bind fun t => match t with
  | true => M.pure a
  | false => M.pure b
def uJ (t : TypeId) (a v : a9) : M a9 := (store E t a v).bind fun _ => M.pure undef
def nilCheck (x : a9) : M a9 :=
  match x with
  | .ptr id off => M.pure (.ptr id off)
  | .ip f n off => M.pure (.ip f n off)
  | .fn f a c => match f with
    | .func g => M.pure (.fn (.func g) a c)
    | .yield g => M.pure (.fn (.yield g) a c)
    | _ => bD "nilCheck"
  | _ => bD "nilCheck"
def dS (tm : List a9) (c : Call) : M a9 :=
  match c.callee with
  | .value f => jQ E rec (opd tm f) (fH tm c.args.toList)
  | .builtin b => builtin E b c.argTypes.toList (fH tm c.args.toList)
  | .invoke _ _ => bD "invoke"
def oS (t : TypeId) : M a9 := (j8 E t).bind fun z => alloc E t z
def execOp (tm : List a9) (o : Op) : M a9 :=
  match o with
  | .move x => M.pure (opd tm x)
  | .assign x => M.pure (opd tm x)
  | .pick c a b => bE (opd tm c) (opd tm a) (opd tm b)
  | .alloc t => oS E t
  | .box t x => alloc E t (opd tm x)
  | .build t ps => build E t (zK tm ps.toList)
  | .buildSlice t n ps => buildSlice E t n (zK tm ps.toList)
  | .load t a => load E t (opd tm a)
  | .store t a x => uJ E t (opd tm a) (opd tm x)
  | .nilCheck x => nilCheck (opd tm x)
  | .binOp op t x y _ => binOp E op t (opd tm x) (opd tm y)
  | .unOp op _ x => unOp op (opd tm x)
  | .convert s d x => convert E s d (opd tm x)
  | .makeFunc f a c => match f with
    | .func g => M.pure (.fn (.func g) (fH tm a.toList) (fH tm c.toList))
    | _ => bD "makeFunc"
  | .makeSlice t l c => makeSlice E t (opd tm l) (opd tm c)
  | .slice t x lo hi mx => slice E t (opd tm x) (opt tm lo) (opt tm hi) (opt tm mx)
  | .fieldAddr t x f => fieldAddr E t (opd tm x) f
  | .field t x f => field E t (opd tm x) f
  | .indexAddr t x i => indexAddr E t (opd tm x) (opd tm i)
  | .index t x i => index E t (opd tm x) (opd tm i)
  | .range t x => range E t (opd tm x)
  | .next x s => match s with
    | true => next (opd tm x)
    | false => bD "next of a map"
  | .extract x i => extract (opd tm x) i
  | .call c => dS E rec tm c
  | .makeMap _ r => pZ (opt tm r)
  | .entry x => CJ (opd tm x)
  | .lookup t x k ok => iS E t (opd tm x) (opd tm k) ok
  | .mapUpdate t x k y => kB E t (opd tm x) (opd tm k) (opd tm y)
  | .insert t x k y => kB E t (opd tm x) (opd tm k) (opd tm y)
  | .mapEntry t x k => iR E t (opd tm x) (opd tm k)
  | .entryStore _ x st y => gO (opd tm x) (opd tm st) (opd tm y)
  | _ => bD "an operation that is not known"
def bP (tm : List a9) (d : Option Tmp) (v : a9) : List a9 :=
  match d with
  | some d => put tm d v
  | none => tm
def kV (want : Bool) : a9 → M Bool
  | .bool b => (ask b).bind fun t => M.pure (t == want)
  | .fU b => M.pure (b == want)
  | .aA => bD "guard"
  | _ => M.pure false
def wanted (ops : List Oper) (tm : List a9) (g : Option (Nat × Bool)) : M Bool :=
  match g with
  | none => M.pure true
  | some p => match (ops[p.1]?).bind (·.dst) with
    | none => M.pure false
    | some d => kV p.2 (nth tm d undef)
def opV (ops : List Oper) (o : Oper) (tm : List a9) : M a9 :=
  (wanted ops tm o.guard).bind fun w => match w with
    | true => execOp E rec tm o.op
    | false => M.pure undef
def K7 (ops : List Oper) (o : Oper) (tm : List a9) : M (List a9) := (opV E rec ops o tm).bind fun v => M.pure (bP tm o.dst v)
def kK (ops : List Oper) : List Oper → List a9 → M (List a9)
  | [], tm => M.pure tm
  | o :: rest, tm => (K7 E rec ops o tm).bind fun tm => kK ops rest tm
structure fM where
  j : Nat
  r : List Nat
  w : List Nat
  lo : Nat
  hi : Nat
def old (lo hi id : Nat) : Bool := id.blt lo || hi.ble id
def m5 {α : Type} (j : Nat) (m : M α) (s : St) : Res (α × fM) :=
  match m.run { s with rds := [], wrs := [] } with
  | .ok a s' => .ok (a, ⟨j, s'.rds.filter (old s.next s'.next), s'.wrs.filter (old s.next s'.next), s.next, s'.next⟩) { s' with rds := s'.rds ++ s.rds, wrs := s'.wrs ++ s.wrs }
  | .bD w => .bD w
  | .ask b => .ask b
theorem P6 {α : Type} (j : Nat) (m : M α) : Loc (m5 j m) := by
  intro s a s' h
  unfold m5 at h
  cases hm : m.run { s with rds := [], wrs := [] } with
  | bD w => rw [hm] at h; cases h
  | ask b => rw [hm] at h; cases h
  | ok a1 s1 =>
    rw [hm] at h
    injection h with h1 h2
    subst h1; subst h2
    obtain ⟨r, w, o, d⟩ := m.loc _ _ _ hm
    have er : s1.rds = r := by simpa using d.rds
    have ew : s1.wrs = w := by simpa using d.wrs
    refine ⟨r, w, o, ⟨d.next, by simp [er], by simp [ew], d.obs, d.rest, d.dL, fun t hn ho hg => ?_, d.orc, d.vU⟩⟩
    obtain ⟨t', e, hn', ho', hr', hw', hob', hg', hk'⟩ := d.sJ { t with rds := [], wrs := [] } hn ho hg
    have er' : t'.rds = r := by simpa using hr'
    have ew' : t'.wrs = w := by simpa using hw'
    refine ⟨{ t' with rds := t'.rds ++ t.rds, wrs := t'.wrs ++ t.wrs }, ?_, hn', ho', by simp [er'], by simp [ew'], hob', hg', hk'⟩
    unfold m5
    rw [e]
    simp only [hn, hn', er, ew, er', ew']
def kD {α : Type} (j : Nat) (m : M α) : M (α × fM) := ⟨m5 j m, P6 j m⟩
def j4 (x y : List Nat) : Bool := x.any fun a => y.any fun b => a.beq b
def within (lo hi id : Nat) : Bool := lo.ble id && id.blt hi
def l9 (x : List Nat) (f : fM) : Bool := match f.lo.beq f.hi with
  | true => false
  | false => x.any (within f.lo f.hi)
def eZ (a b : fM) : Bool := j4 a.w b.r || (j4 a.w b.w || (j4 a.r b.w || (l9 a.r b || (l9 a.w b || (l9 b.r a || l9 b.w a)))))
def oU (acc : List Nat) : List Edge → Nat
  | [] => 0
  | e :: l => match Region.binds .any e with
    | true => oU acc l ||| (2 ^ e.on ||| acc.getD e.on 0)
    | false => oU acc l
def dH (acc : List Nat) : List Oper → List Nat
  | [] => acc
  | o :: l => dH (acc ++ [oU acc o.after.toList]) l
def cJ (bs : List Nat) : List fM → Bool
  | [] => true
  | b :: l => l.all (fun a => (eZ a b).not || (bs.getD b.j 0).testBit a.j) && cJ bs l
def j5 (ops : List Oper) : Nat → List Oper → List a9 → List fM → M (List a9 × List fM)
  | _, [], tm, fs => M.pure (tm, fs)
  | j, o :: rest, tm, fs => (kD j (opV E rec ops o tm)).bind fun r => j5 ops (j + 1) rest (bP tm o.dst r.1) (r.2 :: fs)
def uX : List Operand → List Nat
  | [] => []
  | x :: l => match x with
    | .tmp t => t :: uX l
    | _ => uX l
def tX (ops : List Oper) (o : Oper) : List Nat :=
  uX o.op.operands.toList ++
  (match o.guard with
   | some p => ((ops[p.1]?).bind (·.dst)).toList
   | none => [])
def kL (ops : List Oper) (j : Nat) : List Oper → List fM → List fM
  | [], fs => fs
  | o :: rest, fs => kL ops (j + 1) rest (⟨j, tX ops o, o.dst.toList, 0, 0⟩ :: fs)
def uN (j : Nat) : List Oper → Bool
  | [] => true
  | o :: l => o.after.toList.all (fun e => match Region.binds .any e with
      | true => e.on.blt j
      | false => true) && uN (j + 1) l
def tI (ops : List Oper) : Bool := uN 0 ops && cJ (dH [] ops) (kL ops 0 ops [])
def yG (ops : List Oper) (tm : List a9) : M (List a9) :=
  (ob (tI ops)).bind fun _ => (j5 E rec ops 0 ops tm []).bind fun r => (ob (cJ (dH [] ops) r.2)).bind fun _ => M.pure r.1
def FY (id : Nat) (tm : List a9) : M (eS × List a9) :=
  (eQ id).bind (nL fun l => match l.state with
    | .busy => bD "busy"
    | _ => (jW id (.loop { l with state := .exhausted })).bind fun _ => match l.pending with
      | none => M.pure (.normal, tm)
      | some c => match c with
        | .ret => M.pure (.ret, tm)
        | .exit j => M.pure (.exit j, tm)
        | _ => bD "pending")
def aF : List Bool → List a9 → List a9
  | [], tm => tm
  | _ :: _, [] => []
  | b :: k, a :: tm => (match b with | true => a | false => .aA) :: aF k tm
def bF (fn : FuncId) (tm : List a9) : List a9 :=
  match (E.funcs.find fn).i.aM with
  | none => tm
  | some k => aF k tm
noncomputable def step (fn : FuncId) (rnd : Option Nat) (c : Code) (tm : List a9) : M (eS × List a9) :=
  match c with
  | .skip => M.pure (.normal, tm)
  | .label _ => M.pure (.normal, tm)
  | .region id ops draw => match draw with
    | false => (kK E rec ops.toList ops.toList tm).bind fun tm => M.pure (.normal, bF E fn tm)
    | true => match fP E.sQ fn id (.region id ops true) with
      | some act => act tm
      | none => (yG E rec ops.toList tm).bind fun tm => M.pure (.normal, bF E fn tm)
  | .seq a b => (rec fn rnd a tm).bind fun r => match r.1 with
    | .normal => rec fn rnd b r.2
    | _ => M.pure r
  | .cond c a b => (branch (opd tm c)).bind fun t => match t with
    | true => rec fn rnd a tm
    | false => rec fn rnd b tm
  | .block id c => match fP E.jB fn id (.block id c) with
    | some act => act tm
    | none => (rec fn rnd c tm).bind fun r => match r.1 with
      | .exit j => match j.beq id with
        | true => M.pure (.normal, r.2)
        | false => M.pure r
      | _ => M.pure r
  | .loop c => (rec fn rnd c tm).bind fun r => match r.1 with
    | .normal => rec fn rnd (.loop c) r.2
    | _ => M.pure r
  | .rangeFunc f ps assign body => match opd tm f with
    | .fn g first cap => match g with
      | .func g => match (E.funcs.find g).f.beq g with
        | true => (match rnd with
            | none => M.pure ()
            | some l0 => (eQ l0).bind (nL fun _ => M.pure ())).bind fun _ =>
          (pX (.loop { state := .ready, pending := none, fn, tmps := tm, params := ps.toList, assign, body })).bind fun id =>
          (fX E rec g (first ++ [a9.fn (.yield id) [] []] ++ cap)).bind fun _ => FY id tm
        | false => bD "range over a function"
      | _ => bD "range over a function"
    | _ => bD "range over a function"
  | .exit id => M.pure (.exit id, tm)
  | .scope c => rec fn rnd c tm
  | .ret => M.pure (.ret, tm)
  | _ => bD "code"
noncomputable def jP : Nat → Rec
  | 0 => fun _ _ _ _ => bD "fuel"
  | n + 1 => step E (jP n)
end Go.Am
set_option linter.unusedSimpArgs false
set_option linter.unusedVariables false
namespace Go.Am
open Go
variable {E : Env}
theorem aD {α : Type} {a b : α} {s s' : St} (h : (M.pure a).run s = .ok b s') : b = a ∧ s' = s := by
 simp only [M.pure] at h
 injection h with h1 h2
 exact ⟨h1.symm, h2.symm⟩
theorem aC {α : Type} {w : String} {b : α} {s s' : St} (h : (bD w : M α).run s = .ok b s') : False := by
 simp only [bD] at h
 cases h
structure fL (s s' : St) : Prop where
 heap : s'.heap = s.heap
 next : s'.next = s.next
theorem fL.refl (s : St) : fL s s := ⟨rfl, rfl⟩
theorem fL.trans {a b c : St} (h : fL a b) (h' : fL b c) : fL a c := ⟨h'.heap.trans h.heap, h'.next.trans h.next⟩
theorem dQ {b : Bool} {u : Unit} {s s' : St} (h : (ob b).run s = .ok u s') (ho : bT s') : b = true ∧ fL s s' := by
 simp only [ob, obF] at h
 cases b with
 | true =>
  injection h with h1 h2
  subst h2
  exact ⟨rfl, rfl, rfl⟩
 | false =>
  injection h with h1 h2
  subst h2
  simp only [bT, List.all_cons, id, Bool.and_eq_true] at ho
  exact absurd ho.1 (by decide)
theorem qS {b a : Bool} {s s' : St} (h : (ask b).run s = .ok a s') (ho : bT s') : a = b ∧ fL s s' := by
 simp only [ask, FB] at h
 split at h
 ·injection h with h1 h2
  subst h1; subst h2
  exact ⟨rfl, rfl, rfl⟩
 ·cases h
 ·injection h with h1 h2
  subst h1; subst h2
  simp only [bT, List.all_cons, id, Bool.and_eq_true] at ho
  exact ⟨(beq_iff_eq.1 ho.1).symm, rfl, rfl⟩
theorem B4 {v : a9} {a : Bool} {s s' : St} (h : (branch v).run s = .ok a s') (ho : bT s') : (v = .bool a ∨ v = .fU a) ∧ fL s s' := by
 unfold branch at h
 split at h
 ·obtain ⟨h1, h2⟩ := aD h
  subst h1; subst h2
  exact ⟨.inr rfl, .refl _⟩
 ·obtain ⟨h1, h2⟩ := qS h ho
  subst h1
  exact ⟨.inl rfl, h2⟩
 ·exact (aC h).elim
theorem dE {id : Nat} {b : Blk} {s s' : St} (h : (eQ id).run s = .ok b s') : s.heap.get id = some b ∧ fL s s' := by
 simp only [eQ, CC] at h
 cases hg : s.heap.get id with
 | none => rw [hg] at h; cases h
 | some b0 =>
  rw [hg] at h
  injection h with h1 h2
  subst h1; subst h2
  exact ⟨rfl, rfl, rfl⟩
theorem I6 {id : Nat} {b : Option Blk} {u : Unit} {s s' : St} (h : wH id b s = .ok u s') :
  s.heap.get id ≠ none ∧ s'.next = s.next ∧ ∀ j, s'.heap.get j = if j = id then b else s.heap.get j := by
 unfold wH at h
 cases hg : s.heap.get id with
 | none => rw [hg] at h; cases h
 | some b0 =>
  rw [hg] at h
  injection h with _ h2
  subst h2
  exact ⟨by simp, rfl, fun j => Tr.oO s.heap id b j⟩
theorem pN {id : Nat} {b : Blk} {u : Unit} {s s' : St} (h : (jW id b).run s = .ok u s') :
  s.heap.get id ≠ none ∧ s'.next = s.next ∧ ∀ j, s'.heap.get j = if j = id then some b else s.heap.get j := I6 h
theorem tY {id : Nat} {u : Unit} {s s' : St} (h : (zO id).run s = .ok u s') :
  s.heap.get id ≠ none ∧ s'.next = s.next ∧ ∀ j, s'.heap.get j = if j = id then none else s.heap.get j := I6 h
theorem vB {id : Nat} {b : Blk} {s s' : St} (h : (pX b).run s = .ok id s') :
  id = s.next ∧ s'.next = s.next + 1 ∧ ∀ j, s'.heap.get j = if j = id then some b else s.heap.get j := by
 simp only [pX, OS] at h
 injection h with h1 h2
 subst h1; subst h2
 exact ⟨rfl, rfl, fun j => Tr.oO s.heap s.next (some b) j⟩
theorem iW {α : Type} {k : bG → TypeId → M α} {b : Blk} {a : α} {s s' : St} (h : (eE k b).run s = .ok a s') : ∃ c t, b = .row c t ∧ (k c t).run s = .ok a s' := by
 unfold eE at h
 split at h
 ·exact ⟨_, _, rfl, h⟩
 ·exact (aC h).elim
theorem qA {α : Type} {k : kS → M α} {b : Blk} {a : α} {s s' : St} (h : (nL k b).run s = .ok a s') : ∃ l, b = .loop l ∧ (k l).run s = .ok a s' := by
 unfold nL at h
 split at h
 ·exact ⟨_, rfl, h⟩
 ·exact (aC h).elim
theorem j7 {α : Type} {why : String} {o : Option α} {a : α} {s s' : St} (h : (fV why o).run s = .ok a s') : o = some a ∧ s' = s := by
 unfold fV at h
 split at h
 ·obtain ⟨h1, h2⟩ := aD h
  exact ⟨by rw [h1], h2⟩
 ·exact (aC h).elim
theorem oJ {α : Type} {k : Int → M α} {v : a9} {a : α} {s s' : St} (h : (fJ k v).run s = .ok a s') : ∃ q n, v = .int q n ∧ (k n).run s = .ok a s' := by
 unfold fJ at h
 split at h
 ·exact ⟨_, _, rfl, h⟩
 ·exact (aC h).elim
theorem lK {α : Type} {k : List UInt8 → M α} {v : a9} {a : α} {s s' : St} (h : (nD k v).run s = .ok a s') : ∃ l, v = .str l ∧ (k l).run s = .ok a s' := by
 unfold nD at h
 split at h
 ·exact ⟨_, rfl, h⟩
 ·exact (aC h).elim
theorem kU {α : Type} {k : List a9 → M α} {v : a9} {a : α} {s s' : St} (h : (gK k v).run s = .ok a s') : ∃ l, v = .agg l ∧ (k l).run s = .ok a s' := by
 unfold gK at h
 split at h
 ·exact ⟨_, rfl, h⟩
 ·exact (aC h).elim
theorem dM {α : Type} {n z : Nat} {k : M α} {a : α} {s s' : St} (h : (cB n z k).run s = .ok a s') : n = z ∧ k.run s = .ok a s' := by
 unfold cB at h
 split at h
 ·rename_i e; exact ⟨Nat.eq_of_beq_eq_true e, h⟩
 ·exact (aC h).elim
theorem lI {t : TypeId} {i : TI} {s s' : St} (h : (ti E t).run s = .ok i s') : TOk E.P t i ∧ s' = s := by
 unfold ti at h
 cases hb : (E.types.find t).t.beq t with
 | true =>
  rw [hb] at h
  obtain ⟨h1, h2⟩ := aD h
  have := (E.types.find t).ok
  rw [Nat.eq_of_beq_eq_true hb] at this
  subst h1
  exact ⟨this, h2⟩
 | false => rw [hb] at h; exact (aC h).elim
theorem eI {t : TypeId} {d : TypeDesc} {s s' : St} (h : (und E t).run s = .ok d s') : (∃ i, TOk E.P t i ∧ i.desc = d) ∧ s' = s := by
 obtain ⟨i, s1, h1, h2⟩ := M.aG h
 obtain ⟨hi, rfl⟩ := lI h1
 obtain ⟨rfl, rfl⟩ := aD h2
 exact ⟨⟨i, hi, rfl⟩, rfl⟩
theorem fR {t : TypeId} {n : Nat} {s s' : St} (h : (sizeOf E t).run s = .ok n s') : (∃ i, TOk E.P t i ∧ i.size = n) ∧ s' = s := by
 obtain ⟨i, s1, h1, h2⟩ := M.aG h
 obtain ⟨hi, rfl⟩ := lI h1
 obtain ⟨rfl, rfl⟩ := aD h2
 exact ⟨⟨i, hi, rfl⟩, rfl⟩
theorem uS {t : TypeId} {v : a9} {s s' : St} (h : (j8 E t).run s = .ok v s') : (∃ i, TOk E.P t i ∧ i.zero = v) ∧ s' = s := by
 obtain ⟨i, s1, h1, h2⟩ := M.aG h
 obtain ⟨hi, rfl⟩ := lI h1
 obtain ⟨rfl, rfl⟩ := aD h2
 exact ⟨⟨i, hi, rfl⟩, rfl⟩
section
variable {P : Program} {t : TypeId} {i : TI} {w : World}
theorem TOk.dF (h : TOk P t i) : (underlying t).run P w = .ok i.desc w := run_underlying h.und w
theorem TOk.cZ (h : TOk P t i) : (Go.sizeOf t).run P w = .ok i.size w := by
 obtain ⟨j, z, hj, hs, _⟩ := h.GN
 simp [Go.sizeOf, typeInfo, hj, hs]
theorem TOk.lC (h : TOk P t i) : (P.info? t).map (·.size) = some i.size := by
 obtain ⟨j, z, hj, hs, _⟩ := h.GN
 simp [hj, hs]
theorem TOk.DJ (h : TOk P t i) : ∃ j, (typeInfo t).run P w = .ok j w ∧ j.size = i.size ∧ j.bytes = i.bytes ∧ ∃ z, j.zero = some z ∧ ofValue z = i.zero := by
 obtain ⟨j, z, hj, hs, hb, hz, hv⟩ := h.GN
 exact ⟨j, by simp [typeInfo, hj], hs, hb, z, hz, hv⟩
theorem TOk.lO (h : TOk P t i) : ∃ z, (zeroValue t).run P w = .ok z w ∧ ofValue z = i.zero := by
 obtain ⟨j, z, hj, hs, hb, hz, hv⟩ := h.GN
 exact ⟨z, by simp [zeroValue, typeInfo, hj, hz], hv⟩
theorem TOk.A5 (h : TOk P t i) : (isAgg t).run P w = .ok (jG i.desc) w := by
 unfold isAgg
 rw [Sem.run_bind, h.dF, Result.andThen_ok]
 cases i.desc <;> rfl
end
theorem sD : ∀ l, (ofList l).length = l.length
 | [] => rfl
 | v :: l => by simp [ofList, sD l]
theorem xS : ∀ (l : List Value) (i : Nat), (ofList l)[i]? = (l[i]?).map ofValue
 | [], i => by simp [ofList]
 | v :: l, 0 => by simp [ofList]
 | v :: l, i + 1 => by simp [ofList, xS l i]
mutual
theorem gV {ρ : Ren} {m : Mem} : ∀ v, R ρ m (ofValue v) v
 | .bool b => .bool b
 | .int k n => .int k n
 | .string s => by
  obtain ⟨⟨l⟩⟩ := s
  exact .str l
 | .pointer none => .dG
 | .slice none 0 0 => .aN
 | .map none => .kZ
 | .nilFunc => .cF
 | .nilIface => .zM
 | .agg c => by
  have := xT (ρ := ρ) (m := m) c
  exact .agg _ _ this.1 this.2
 | .tuple c => by
  have := xT (ρ := ρ) (m := m) c
  exact .tup _ _ this.1 this.2
 | .float _ _ => by simp only [ofValue]; exact .aA _
 | .complex _ _ _ => by simp only [ofValue]; exact .aA _
 | .pointer (some _) => by simp only [ofValue]; exact .aA _
 | .slice (some _) _ _ => by simp only [ofValue]; exact .aA _
 | .slice none (_ + 1) _ => by simp only [ofValue]; exact .aA _
 | .slice none 0 (_ + 1) => by simp only [ofValue]; exact .aA _
 | .map (some _) => by simp only [ofValue]; exact .aA _
 | .chan _ => by simp only [ofValue]; exact .aA _
 | .func _ _ _ => by simp only [ofValue]; exact .aA _
 | .iface _ _ => by simp only [ofValue]; exact .aA _
theorem xT {ρ : Ren} {m : Mem} : ∀ c, (xU c).length = c.size ∧ ∀ (i : Nat) v x, (xU c)[i]? = some v → c[i]? = some x → R ρ m v x
 | ⟨l⟩ => by
  have := vV (ρ := ρ) (m := m) l
  refine ⟨by simp [xU, sD], fun i v x hv hx => ?_⟩
  simp only [xU, xS] at hv
  simp only [List.getElem?_toArray] at hx
  rw [hx] at hv
  simp only [Option.map_some, Option.some.injEq] at hv
  subst hv
  exact this i x hx
theorem vV {ρ : Ren} {m : Mem} : ∀ l : List Value, ∀ (i : Nat) x, l[i]? = some x → R ρ m (ofValue x) x
 | [], i, x, hx => by simp at hx
 | v :: l, 0, x, hx => by
  simp at hx
  subst hx
  exact gV v
 | v :: l, i + 1, x, hx => by
  simp at hx
  exact vV l i x hx
end
theorem R.cells {ρ : Ren} {m : Mem} {v : a9} {x : Value} (h : R ρ m v x) (hj : v ≠ .aA) : RL ρ m v.cells x.cells := by
 cases h with
 | agg l c hl hr => exact ⟨hl, hr⟩
 | aA => exact absurd rfl hj
 | _ =>
  refine ⟨rfl, fun i a b ha hb => ?_⟩
  cases i with
  | zero => simp [a9.cells, Value.cells] at ha hb; subst ha; subst hb; constructor <;> assumption
  | succ i => simp [a9.cells] at ha
theorem gI (g : Nat → a9) : ∀ (n off : Nat), (cellsOf g off n).length = n
 | 0, _ => rfl
 | n + 1, off => by simp [cellsOf, gI g n]
theorem qN (g : Nat → a9) : ∀ (n off i : Nat), i < n → (cellsOf g off n)[i]? = some (g (off + i))
 | 0, _, _, h => absurd h (Nat.not_lt_zero _)
 | n + 1, off, 0, _ => by simp [cellsOf]
 | n + 1, off, i + 1, h => by
  simp only [cellsOf, List.getElem?_cons_succ]
  rw [qN g n (off + 1) i (by omega)]
  congr 2; omega
theorem gB : ∀ (l : List a9) (i : Nat) (d : a9), nth l i d = (l[i]?).getD d
 | [], i, d => by simp [nth]
 | a :: l, 0, d => by simp [nth]
 | a :: l, i + 1, d => by simp [nth, gB l i d]
theorem jZ : ∀ (l : List a9) (i : Nat) (v : a9), (put l i v).length = l.length
 | [], _, _ => rfl
 | _ :: _, 0, _ => rfl
 | a :: l, i + 1, v => by simp [put, jZ l i v]
theorem wX : ∀ (l : List a9) (i : Nat) (v : a9) (j : Nat), (put l i v)[j]? = if j = i ∧ i < l.length then some v else l[j]?
 | [], i, v, j => by simp [put]
 | a :: l, 0, v, j => by
  cases j with
  | zero => simp [put]
  | succ j => simp [put]
 | a :: l, i + 1, v, j => by
  cases j with
  | zero => simp [put]
  | succ j => simp [put, wX l i v j]
theorem bG.gQ {c : bG} {off n : Nat} (h : off + n ≤ c.size) : (c.sub off n).length = n := by
 cases c with
 | l xs => simp only [bG.size] at h; simp [bG.sub]; omega
 | f k g => simp [bG.sub, gI]
theorem bG.wU {c : bG} {off n i : Nat} (h : off + n ≤ c.size) (hi : i < n) : (c.sub off n)[i]? = some (c.at (off + i)) := by
 cases c with
 | l xs =>
  simp only [bG.size] at h
  simp only [bG.sub, bG.at, gB]
  rw [List.getElem?_take_of_lt hi, List.getElem?_drop]
  have : off + i < xs.length := by omega
  simp [List.getElem?_eq_getElem this]
 | f k g => simp only [bG.sub, bG.at]; exact qN g n off i hi
theorem dU (b o n : Nat) : (⟨b, o, none⟩ : Addr).add n = ⟨b, o + n, none⟩ := by unfold Addr.add; split <;> simp_all
theorem Rel.row {P : Program} {ρ : Ren} {m : Mem} {h : Nat → Option Blk} {w : World} (hr : Rel P ρ m h w) {id : Nat} {c : bG} {t : TypeId} (hg : h id = some (.row c t)) {r : RB} (hρ : ρ id = some r) :
  ∃ arr fr, w.heap[r.b]? = some (.cells arr t fr) ∧ (P.info? t).map (·.size) = some r.s ∧ arr.size = r.n ∧ c.size ≤ arr.size ∧ (∀ j x, j < c.size → arr[j]? = some x → R ρ m (c.at j) x) ∧ UX P t fr arr.size ∧ m r.b = none := by
 obtain ⟨rb, o, h1, h2, h3, h4⟩ := hr.dL id _ hg
 rw [hρ] at h1
 injection h1 with h1
 subst h1
 cases h3 with
 | row c elem arr fr hs hn hc hrr hf => exact ⟨arr, fr, h2, hs, hn, hc, hrr, hf, h4⟩
theorem Mem.HG {P : Program} {ρ : Ren} {m : Mem} {h : Nat → Option Blk} {w : World} (hr : Rel P ρ m h w) {b o : Nat} {v : Value} (hc : m.cell b o = some v) : w.cell? ⟨b, o, none⟩ = some v := by
 unfold Mem.cell at hc
 cases hb : m b with
 | none => rw [hb] at hc; cases hc
 | some ob =>
  rw [hb] at hc
  cases ob with
  | cells c t f =>
   have := hr.mem b _ hb
   simp only at hc
   simp [World.cell?, this, hc]
  | _ => cases hc
theorem iC {P : Program} {v : a9} {n : Nat} {cs : List a9} {s s' : St} (h : (cC v n).run s = .ok cs s') (ho : bT s') {ρ : Ren} {m : Mem} {w : World}
  (hr : Rel P ρ m s.heap.get w) {x : Value} (hx : R ρ m v x) :
  ∃ (a : Addr) (xs : List Value), x = .pointer (some a) ∧ (∀ j y, xs[j]? = some y → w.cell? (a.add j) = some y) ∧ xs.length = n ∧ RL ρ m cs xs.toArray ∧ cs.length = n ∧ fL s s' := by
 unfold cC at h
 split at h
 ·rename_i id off
  obtain ⟨b, s1, h1, h2, ho1, _, _⟩ := M.aL h ho
  obtain ⟨hg, e1⟩ := dE h1
  obtain ⟨c, t, rfl, h3⟩ := iW h2
  obtain ⟨u, s2, h4, h5, ho2, _, _⟩ := M.aL h3 ho
  obtain ⟨hb, e2⟩ := dQ h4 ho2
  obtain ⟨rfl, rfl⟩ := aD h5
  cases hx with
  | ptr id off r hρ =>
   obtain ⟨arr, fr, ha, hs, hn, hc, hrr, hf, hm⟩ := hr.row hg hρ
   have hle : off + n ≤ c.size := by simpa using hb
   refine ⟨_, (arr.toList.drop off).take n, rfl, ?_, by simp; omega, ⟨?_, ?_⟩, bG.gQ hle, e1.trans e2⟩
   ·intro j y hy
    rw [dU]
    have hj : j < n := by
     have := (List.getElem?_eq_some_iff.1 hy).1
     simp at this; omega
    rw [List.getElem?_take_of_lt hj, List.getElem?_drop] at hy
    simp only [World.cell?, ha]
    simpa using hy
   ·simp [bG.gQ hle]; omega
   ·intro i a y ha' hy
    have hi : i < n := by
     have := (List.getElem?_eq_some_iff.1 ha').1
     rw [bG.gQ hle] at this; exact this
    rw [bG.wU hle hi] at ha'
    injection ha' with ha'
    subst ha'
    simp only [List.getElem?_toArray] at hy
    rw [List.getElem?_take_of_lt hi, List.getElem?_drop] at hy
    exact hrr _ y (by omega) (by simpa using hy)
 ·rename_i f k off
  obtain ⟨u, s2, h4, h5, ho2, _, _⟩ := M.aL h ho
  obtain ⟨hb, e2⟩ := dQ h4 ho2
  obtain ⟨rfl, rfl⟩ := aD h5
  cases hx with
  | ip f k off b o g hg hrr =>
   have hle : off + n ≤ k := by simpa using hb
   refine ⟨_, (List.range n).map fun j => g (off + j), rfl, ?_, by simp, ⟨by simp [gI], ?_⟩, gI _ _ _, e2⟩
   ·intro j y hy
    rw [dU]
    simp only [List.getElem?_map] at hy
    have hj : j < n := by
     cases hj : (List.range n)[j]? with
     | none => rw [hj] at hy; cases hy
     | some q => have := (List.getElem?_eq_some_iff.1 hj).1; simpa using this
    rw [List.getElem?_range hj] at hy
    simp at hy
    subst hy
    have := Mem.HG hr (hg (off + j) (by omega))
    rw [← Nat.add_assoc] at this
    exact this
   ·intro i a y ha' hy
    have hi : i < n := by
     have := (List.getElem?_eq_some_iff.1 ha').1
     rw [gI] at this; exact this
    rw [qN _ _ _ _ hi] at ha'
    injection ha' with ha'
    subst ha'
    simp only [List.getElem?_toArray, List.getElem?_map, List.getElem?_range hi, Option.map_some, Option.some.injEq] at hy
    subst hy
    exact hrr _ (by omega)
 ·exact (aC h).elim
end Go.Am
set_option linter.unusedSimpArgs false
set_option linter.unusedVariables false
namespace Go.Am
open Go
variable {E : Env}
def World.upd (w : World) (b : Nat) (o : Obj) : World := { w with heap := w.heap.setIfInBounds b o }
theorem World.qW (w : World) (b : Nat) (o : Obj) (h : b < w.heap.size) (j : Nat) : (World.upd w b o).heap[j]? = if j = b then some o else w.heap[j]? := by
 simp only [World.upd, Array.getElem?_setIfInBounds]
 by_cases e : b = j
 ·subst e; simp [h]
 ·have : ¬ j = b := fun x => e x.symm
  simp [e, this]
theorem World.pH (w : World) (b : Nat) (o : Obj) : Fr w (World.upd w b o) := ⟨rfl, rfl, rfl, by simp [World.upd]⟩
theorem World.aO (w : World) (b : Nat) (o : Obj) (h : w.heap[b]? = some o) : World.upd w b o = w := by
 obtain ⟨hb, he⟩ := Array.getElem?_eq_some_iff.1 h
 have : w.heap.setIfInBounds b o = w.heap := by
  apply Array.ext_getElem?
  intro i
  rw [Array.getElem?_setIfInBounds]
  by_cases e : b = i
  ·subst e; simp [hb, h, he]
  ·simp [e]
 unfold World.upd
 rw [this]
theorem World.wT (w : World) (b : Nat) (o o' : Obj) : World.upd (World.upd w b o) b o' = World.upd w b o' := by
 simp only [World.upd]
 congr 1
 apply Array.ext_getElem?
 intro i
 simp only [Array.getElem?_setIfInBounds, Array.size_setIfInBounds]
 by_cases e : b = i
 ·simp [e]
 ·simp [e]
theorem DH (w : World) (b off : Nat) (v : Value) (arr : Array Value) (t : TypeId) (fr : Nat × Nat) (h : w.heap[b]? = some (.cells arr t fr)) :
  w.setCell ⟨b, off, none⟩ v = World.upd w b (.cells (arr.setIfInBounds off v) t fr) := by
 obtain ⟨hb, he⟩ := Array.getElem?_eq_some_iff.1 h
 unfold World.setCell World.upd
 congr 1
 apply Array.ext_getElem?
 intro i
 rw [Array.getElem?_modify, Array.getElem?_setIfInBounds]
 by_cases e : b = i
 ·subst e
  simp [hb, h, he]
 ·simp [e]
theorem eV {w : World} {b : Nat} {o : Obj} (h : w.heap[b]? = some o) : b < w.heap.size := (Array.getElem?_eq_some_iff.1 h).1
theorem Rel.upd {P : Program} {ρ : Ren} {m : Mem} {h h' : Nat → Option Blk} {w : World} (hr : Rel P ρ m h w) {id : Nat} {b0 b : Blk} {o : Obj} {r : RB} (hg : h id = some b0) (hρ : ρ id = some r)
  (hb : BR P ρ m r b o) (hh : ∀ j, h' j = if j = id then some b else h j) : Rel P ρ m h' (World.upd w r.b o) where
 dL := fun j c hj => by
  obtain ⟨rb, o0, k1, k2, k3, k4⟩ := hr.dL id b0 hg
  rw [hρ] at k1
  injection k1 with k1
  subst k1
  have hlt := eV k2
  rw [hh j] at hj
  by_cases e : j = id
  ·subst e
   simp only [if_true, Option.some.injEq] at hj
   subst hj
   exact ⟨r, o, hρ, by rw [World.qW _ _ _ hlt]; simp, hb, k4⟩
  ·simp only [e, if_false] at hj
   obtain ⟨rb, o1, q1, q2, q3, q4⟩ := hr.dL j c hj
   refine ⟨rb, o1, q1, ?_, q3, q4⟩
   rw [World.qW _ _ _ hlt]
   have : rb.b ≠ r.b := fun x => e (hr.inj j id c b0 rb r hj hg q1 hρ x)
   simp [this, q2]
 inj := fun i j b1 b2 r1 r2 h1 h2 h3 h4 h5 => by
  rw [hh] at h1 h2
  have g1 : ∃ c, h i = some c := by
   by_cases e : i = id
   ·subst e; exact ⟨_, hg⟩
   ·simp only [e, if_false] at h1; exact ⟨_, h1⟩
  have g2 : ∃ c, h j = some c := by
   by_cases e : j = id
   ·subst e; exact ⟨_, hg⟩
   ·simp only [e, if_false] at h2; exact ⟨_, h2⟩
  obtain ⟨c1, g1⟩ := g1
  obtain ⟨c2, g2⟩ := g2
  exact hr.inj i j c1 c2 r1 r2 g1 g2 h3 h4 h5
 mem := fun x ob hx => by
  obtain ⟨rb, o0, k1, k2, k3, k4⟩ := hr.dL id b0 hg
  rw [hρ] at k1
  injection k1 with k1
  subst k1
  rw [World.qW _ _ _ (eV k2)]
  have : x ≠ r.b := fun e => by subst e; rw [k4] at hx; cases hx
  simp [this, hr.mem x ob hx]
theorem Rel.zO {P : Program} {ρ : Ren} {m : Mem} {h h' : Nat → Option Blk} {w : World} (hr : Rel P ρ m h w) {id : Nat} (hh : ∀ j, h' j = if j = id then none else h j) : Rel P ρ m h' w where
 dL := fun j c hj => by
  rw [hh j] at hj
  by_cases e : j = id
  ·simp [e] at hj
  ·simp only [e, if_false] at hj
   exact hr.dL j c hj
 inj := fun i j b1 b2 r1 r2 h1 h2 h3 h4 h5 => by
  rw [hh] at h1 h2
  by_cases e : i = id
  ·simp [e] at h1
  by_cases e2 : j = id
  ·simp [e2] at h2
  simp only [e, e2, if_false] at h1 h2
  exact hr.inj i j b1 b2 r1 r2 h1 h2 h3 h4 h5
 mem := hr.mem
def Ren.put (ρ : Ren) (id : Nat) (r : RB) : Ren := fun j => if j = id then some r else ρ j
theorem gP.put {ρ : Ren} {id : Nat} {r : RB} (h : ρ id = none) : gP ρ (ρ.put id r) := fun j q hj => by
 unfold Ren.put
 by_cases e : j = id
 ·subst e; rw [h] at hj; cases hj
 ·simp [e, hj]
theorem lH (w : World) (o : Obj) (j : Nat) : (w.alloc o).heap[j]? = if j = w.heap.size then some o else w.heap[j]? := by
 show (w.heap.push o)[j]? = _
 rw [Array.getElem?_push]
theorem Fr.alloc (w : World) (o : Obj) : Fr w (w.alloc o) := ⟨rfl, rfl, rfl, by rw [World.size_alloc]; omega⟩
theorem Fr.drew (w : World) : Fr w { w with drawn := w.drawn + 1 } := ⟨rfl, rfl, rfl, Nat.le_refl _⟩
theorem Rel.drew {P : Program} {ρ : Ren} {m : Mem} {h : Nat → Option Blk} {w : World} (hr : Rel P ρ m h w) : Rel P ρ m h { w with drawn := w.drawn + 1 } := ⟨hr.dL, hr.inj, hr.mem⟩
theorem MLe.refl (m : Mem) : MLe m m := ⟨fun _ _ _ _ h => h⟩
theorem gP.refl (ρ : Ren) : gP ρ ρ := fun _ _ h => h
theorem Rel.new {P : Program} {ρ : Ren} {m : Mem} {h h' : Nat → Option Blk} {w : World} (hr : Rel P ρ m h w) {id n s : Nat} {b : Blk} {o : Obj} (hρ : ρ id = none)
  (hb : BR P (ρ.put id ⟨w.heap.size, n, s⟩) m ⟨w.heap.size, n, s⟩ b o) (hh : ∀ j, h' j = if j = id then some b else h j) : Rel P (ρ.put id ⟨w.heap.size, n, s⟩) m h' (w.alloc o) where
 dL := fun j c hj => by
  rw [hh j] at hj
  by_cases e : j = id
  ·subst e
   simp only [if_true, Option.some.injEq] at hj
   subst hj
   refine ⟨_, o, by simp [Ren.put], by rw [lH]; simp, hb, ?_⟩
   cases hm : m w.heap.size with
   | none => rfl
   | some q => have := eV (hr.mem _ _ hm); omega
  ·simp only [e, if_false] at hj
   obtain ⟨rb, o1, q1, q2, q3, q4⟩ := hr.dL j c hj
   refine ⟨rb, o1, gP.put hρ _ _ q1, ?_, q3.mono (gP.put hρ) (.refl m), q4⟩
   rw [lH]
   have := eV q2
   have : rb.b ≠ w.heap.size := by omega
   simp [this, q2]
 inj := fun i j b1 b2 r1 r2 h1 h2 h3 h4 h5 => by
  rw [hh] at h1 h2
  unfold Ren.put at h3 h4
  by_cases e : i = id
  ·by_cases e2 : j = id
   ·rw [e, e2]
   ·simp only [e, e2, if_true, if_false, Option.some.injEq] at h2 h3 h4
    obtain ⟨rb, o1, q1, q2, _⟩ := hr.dL j b2 h2
    rw [q1] at h4
    injection h4 with h4
    subst h4
    have := eV q2
    subst h3
    simp only at h5
    omega
  ·by_cases e2 : j = id
   ·simp only [e, e2, if_true, if_false, Option.some.injEq] at h1 h3 h4
    obtain ⟨rb, o1, q1, q2, _⟩ := hr.dL i b1 h1
    rw [q1] at h3
    injection h3 with h3
    subst h3
    have := eV q2
    subst h4
    simp only at h5
    omega
   ·simp only [e, e2, if_false] at h1 h2 h3 h4
    exact hr.inj i j b1 b2 r1 r2 h1 h2 h3 h4 h5
 mem := fun x ob hx => by
  rw [lH]
  have := eV (hr.mem x ob hx)
  have : x ≠ w.heap.size := by omega
  simp [this, hr.mem x ob hx]
theorem pR (P : Program) (b o : Nat) (t : TypeId) (fr : Nat × Nat) : ∀ (vs : List Value) (i : Nat) (w : World) (arr : Array Value), w.heap[b]? = some (.cells arr t fr) →
  (∀ j, j < arr.size → ¬ (fr.1 ≤ j ∧ j < fr.2)) → o + i + vs.length ≤ arr.size → (∀ v ∈ vs, v.oneCell' = true) →
  ∃ arr', (storeCells ⟨b, o, none⟩ vs i).run P w = .ok () (World.upd w b (.cells arr' t fr)) ∧ arr'.size = arr.size ∧ ∀ j, arr'[j]? = if o + i ≤ j ∧ j < o + i + vs.length then vs[j - (o + i)]? else arr[j]? := by
 intro vs
 induction vs with
 | nil =>
  intro i w arr h hf hl h1
  refine ⟨arr, ?_, rfl, fun j => ?_⟩
  ·rw [World.aO _ _ _ h]; rfl
  ·have : ¬ (o + i ≤ j ∧ j < o + i + ([] : List Value).length) := by simp
   rw [if_neg this]
 | cons v vs ih =>
  intro i w arr h hf hl h1
  simp only [List.length_cons] at hl
  have hv := h1 v (by simp)
  have hc : w.cell? ⟨b, o + i, none⟩ = some arr[o + i] := by
   simp only [World.cell?, h]
   simp [show o + i < arr.size by omega]
  have hz : w.frozen? ⟨b, o + i, none⟩ = false := by
   simp only [World.frozen?, h]
   have := hf (o + i) (by omega)
   simp only [Bool.and_eq_false_iff, decide_eq_false_iff_not]
   by_cases hle : fr.1 ≤ o + i
   ·right; exact fun hlt => this ⟨hle, hlt⟩
   ·left; exact hle
  have hs : (Go.store ((⟨b, o, none⟩ : Addr).add i) v).run P w = .ok () (World.upd w b (.cells (arr.setIfInBounds (o + i) v) t fr)) := by
   rw [dU]
   rw [run_store P w _ v .plain hv, hc]
   simp only [hz, Bool.false_eq_true, if_false]
   rw [DH _ _ _ _ _ _ _ h]
  have hlt := eV h
  obtain ⟨arr', e1, e2, e3⟩ := ih (i + 1) (World.upd w b (.cells (arr.setIfInBounds (o + i) v) t fr)) (arr.setIfInBounds (o + i) v) (by rw [World.qW _ _ _ hlt]; simp) (by simpa using hf) (by simp; omega)
   (fun u hu => h1 u (by simp [hu]))
  refine ⟨arr', ?_, by simpa using e2, fun j => ?_⟩
  ·simp only [storeCells, Sem.run_bind]
   rw [hs, Result.andThen_ok, e1, World.wT]
  ·rw [e3 j]
   by_cases c1 : o + (i + 1) ≤ j ∧ j < o + (i + 1) + vs.length
   ·have c2 : o + i ≤ j ∧ j < o + i + (v :: vs).length := by simp; omega
    rw [if_pos c1, if_pos c2]
    have : j - (o + i) = (j - (o + (i + 1))) + 1 := by omega
    rw [this, List.getElem?_cons_succ]
   ·rw [if_neg c1]
    by_cases c3 : j = o + i
    ·subst c3
     have c2 : o + i ≤ o + i ∧ o + i < o + i + (v :: vs).length := by simp
     rw [if_pos c2]
     simp [show o + i < arr.size by omega]
    ·have c2 : ¬ (o + i ≤ j ∧ j < o + i + (v :: vs).length) := by simp only [List.length_cons]; omega
     rw [if_neg c2, Array.getElem?_setIfInBounds]
     simp [show o + i ≠ j by omega]
theorem pP : ∀ (vs : List a9) (c : bG) (off : Nat), (mT c off vs).size = c.size
 | [], _, _ => rfl
 | v :: vs, c, off => by
  simp only [mT]
  rw [pP vs]
  cases c <;> simp [bG.set, bG.size, jZ]
theorem bG.X4 (c : bG) (i : Nat) (v : a9) (j : Nat) (hi : i < c.size) : (c.set i v).at j = if j = i then v else c.at j := by
 cases c with
 | l xs =>
  simp only [bG.size] at hi
  simp only [bG.set, bG.at, gB, wX]
  by_cases e : j = i
  ·simp [e, hi]
  ·simp [e]
 | f n g =>
  simp only [bG.set, bG.at]
  by_cases e : j = i
  ·subst e; simp
  ·have : j.beq i = false := by
    cases hb : j.beq i with
    | false => rfl
    | true => exact absurd (Nat.eq_of_beq_eq_true hb) e
   simp [this, e]
theorem A3 : ∀ (vs : List a9) (c : bG) (off j : Nat), off + vs.length ≤ c.size → (mT c off vs).at j = if off ≤ j ∧ j < off + vs.length then (vs[j - off]?).getD .aA else c.at j
 | [], c, off, j, _ => by
  have : ¬ (off ≤ j ∧ j < off + ([] : List a9).length) := by simp only [List.length_nil]; omega
  rw [if_neg this]; rfl
 | v :: vs, c, off, j, h => by
  simp only [List.length_cons] at h
  simp only [mT]
  rw [A3 vs (c.set off v) (off + 1) j (by cases c <;> simp_all [bG.set, bG.size, jZ] <;> omega)]
  rw [bG.X4 _ _ _ _ (by omega)]
  by_cases c1 : off + 1 ≤ j ∧ j < off + 1 + vs.length
  ·have c2 : off ≤ j ∧ j < off + (v :: vs).length := by simp; omega
   rw [if_pos c1, if_pos c2]
   have : j - off = (j - (off + 1)) + 1 := by omega
   rw [this, List.getElem?_cons_succ]
  ·rw [if_neg c1]
   by_cases c3 : j = off
   ·subst c3
    have c2 : j ≤ j ∧ j < j + (v :: vs).length := by simp
    rw [if_pos c2]
    simp
   ·have c2 : ¬ (off ≤ j ∧ j < off + (v :: vs).length) := by simp only [List.length_cons]; omega
    rw [if_neg c2, if_neg c3]
theorem R.bB {ρ : Ren} {m : Mem} {v : a9} {x : Value} (h : R ρ m v x) (h1 : bB v = true) : x.oneCell' = true := by
 cases h <;> first | rfl | simp [Am.bB] at h1
theorem iJ {P : Program} {v : a9} {vs : List a9} {u : Unit} {s s' : St} (h : (dN v vs).run s = .ok u s') (ho : bT s') {ρ : Ren} {m : Mem} {w : World}
  (hr : Rel P ρ m s.heap.get w) {x : Value} (hx : R ρ m v x) {xs : List Value} (hl : vs.length = xs.length) (hxs : ∀ (i : Nat) a b, vs[i]? = some a → xs[i]? = some b → R ρ m a b) :
  ∃ a w', x = .pointer (some a) ∧ (storeCells a xs).run P w = .ok () w' ∧ dV P ρ m s w ρ m s' w' := by
 unfold dN at h
 split at h
 ·rename_i id off
  obtain ⟨b, s1, h1, h2, ho1, _, _⟩ := M.aL h ho
  obtain ⟨hg, e1⟩ := dE h1
  obtain ⟨c, t, rfl, h3⟩ := iW h2
  obtain ⟨_, s2, h4, h5, ho2, _, _⟩ := M.aL h3 ho
  obtain ⟨hb, e2⟩ := dQ h4 ho2
  cases hall : vs.all bB with
  | false => rw [hall] at h5; exact (aC h5).elim
  | true =>
   rw [hall] at h5
   obtain ⟨_, hn, hset⟩ := pN h5
   have es := e1.trans e2
   cases hx with
   | ptr id off r hρ =>
    obtain ⟨arr, fr, ha, hs, hn', hc, hrr, hf, hm⟩ := hr.row hg hρ
    have hle : off + vs.length ≤ c.size := by simpa using hb
    have hone : ∀ y ∈ xs, y.oneCell' = true := by
     intro y hy
     obtain ⟨i, hi⟩ := List.getElem?_of_mem hy
     have hlt := (List.getElem?_eq_some_iff.1 hi).1
     have hv : vs[i]? = some vs[i] := List.getElem?_eq_getElem (by omega)
     exact (hxs i _ _ hv hi).bB (List.all_eq_true.1 hall _ (List.getElem_mem _))
    obtain ⟨arr', g1, g2, g3⟩ := pR P r.b off t fr xs 0 w arr ha hf.out (by omega) hone
    refine ⟨_, _, rfl, g1, ⟨.refl ρ, fun _ h => .inl h, fun _ _ h => h, ?_, World.pH _ _ _, by rw [hn, es.next]; exact Nat.le_refl _⟩⟩
    refine hr.upd hg hρ (.row r (mT c off vs) t arr' fr hs (by omega) (by rw [pP]; omega) ?_ (by rw [g2]; exact hf)) (fun j => by rw [hset j, es.heap])
    intro j y hj hy
    rw [pP] at hj
    rw [g3 j] at hy
    rw [A3 vs c off j hle]
    by_cases c1 : off ≤ j ∧ j < off + vs.length
    ·have c2 : off + 0 ≤ j ∧ j < off + 0 + xs.length := by omega
     rw [if_pos c2] at hy
     rw [if_pos c1]
     have hv : vs[j - off]? = some vs[j - off] := List.getElem?_eq_getElem (by omega)
     rw [hv]
     exact hxs (j - off) _ _ hv (by simpa using hy)
    ·have c2 : ¬ (off + 0 ≤ j ∧ j < off + 0 + xs.length) := by omega
     rw [if_neg c2] at hy
     rw [if_neg c1]
     exact hrr j y hj hy
 ·exact (aC h).elim
theorem sT {P : Program} {c : bG} {t : TypeId} {id : Nat} {s s' : St} (h : (pX (.row c t)).run s = .ok id s') {ρ : Ren} {m : Mem} {w : World}
  (hr : Rel P ρ m s.heap.get w) (hf : eC ρ s s') {i : TI} (ht : TOk P t i) {arr : Array Value} (hc : c.size ≤ arr.size) (hrr : ∀ j x, j < c.size → arr[j]? = some x → R ρ m (c.at j) x) :
  id = s.next ∧ dV P ρ m s w (ρ.put id ⟨w.heap.size, arr.size, i.size⟩) m s' (w.alloc (.cells arr t)) := by
 obtain ⟨h1, h2, h3⟩ := vB h
 have hρ : ρ id = none := hf id ⟨by omega, by omega⟩
 refine ⟨h1, ⟨gP.put hρ, fun j hj => ?_, fun _ _ h => h, ?_, .alloc _ _, by omega⟩⟩
 ·unfold Ren.put at hj
  by_cases e : j = id
  ·exact .inr ⟨by omega, by omega⟩
  ·simp only [e, if_false] at hj
   exact .inl hj
 ·exact hr.new hρ (.row _ c t arr (0, 0) ht.lC rfl hc (fun j x hj hx => (hrr j x hj hx).mono (gP.put hρ) (.refl m)) (.inl rfl)) h3
end Go.Am
set_option linter.unusedSimpArgs false
set_option linter.unusedVariables false
namespace Go.Am
open Go
variable {E : Env}
def Out (P : Program) (ρ : Ren) (m : Mem) (s : St) (w : World) (s' : St) (v : a9) (res : Result Value) : Prop :=
 ∃ x w' ρ', res = .ok x w' ∧ dV P ρ m s w ρ' m s' w' ∧ R ρ' m v x
theorem dV.bN {P : Program} {ρ : Ren} {m : Mem} {s s' : St} {w : World} (h : Rel P ρ m s.heap.get w) (e : fL s s') : dV P ρ m s w ρ m s' w :=
 dV.same h (fun id => by rw [e.heap]) e.next
theorem Out.same {P : Program} {ρ : Ren} {m : Mem} {s s' : St} {w : World} {v : a9} {x : Value} (h : Rel P ρ m s.heap.get w) (e : fL s s') (hx : R ρ m v x) : Out P ρ m s w s' v (.ok x w) :=
 ⟨x, w, ρ, rfl, .bN h e, hx⟩
section
variable {ρ : Ren} {m : Mem} {s s' : St} {w : World} {v : a9}
theorem lQ {P : Program} {w : World} {a : Addr} {n : Nat} {xs : List Value} (h : ∀ j y, xs[j]? = some y → w.cell? (a.add j) = some y) (hl : xs.length = n) : (loadCells a n).run P w = .ok xs.toArray w := by
 subst hl
 exact run_loadCells_list w a xs h
theorem II {t : TypeId} {a : a9} (h : (load E t a).run s = .ok v s') (ho : bT s') (hr : Rel E.P ρ m s.heap.get w) {x : Value} (hx : R ρ m a x) :
  ∃ ad y, x = .pointer (some ad) ∧ (loadVar t ad).run E.P w = .ok y w ∧ R ρ m v y ∧ fL s s' := by
 obtain ⟨i, s1, h1, h2⟩ := M.aG h
 obtain ⟨hi, rfl⟩ := lI h1
 have e1 := hi.A5 (w := w)
 have e2 := hi.cZ (w := w)
 cases hb : jG i.desc with
 | true =>
  rw [hb] at h2 e1
  obtain ⟨cs, s2, h3, h4, ho2, _, _⟩ := M.aL h2 ho
  obtain ⟨rfl, rfl⟩ := aD h4
  obtain ⟨ad, xs, rfl, k1, k2, k3, k4, k5⟩ := iC h3 ho2 hr hx
  refine ⟨ad, _, rfl, ?_, .agg _ _ k3.len k3.at_, k5⟩
  simp only [loadVar, Sem.run_bind, Sem.run_pure, Result.andThen_ok, e1, e2, if_true, lQ k1 k2]
 | false =>
  rw [hb] at h2 e1
  obtain ⟨cs, s2, h3, h4, ho2, _, _⟩ := M.aL h2 ho
  have : ∃ c, cs = [c] ∧ v = c ∧ s' = s2 := by
   unfold IE at h4
   split at h4
   ·obtain ⟨rfl, rfl⟩ := aD h4; exact ⟨_, rfl, rfl, rfl⟩
   ·exact (aC h4).elim
  obtain ⟨c, rfl, rfl, rfl⟩ := this
  obtain ⟨ad, xs, rfl, k1, k2, k3, k4, k5⟩ := iC h3 ho2 hr hx
  obtain ⟨y, rfl⟩ : ∃ y, xs = [y] := by
   cases xs with
   | nil => cases k2
   | cons y l => cases l with
    | nil => exact ⟨y, rfl⟩
    | cons z l => simp at k2
  have hy := k1 0 y rfl
  have ha : ad.add 0 = ad := by simp [Addr.add]
  rw [ha] at hy
  refine ⟨ad, y, rfl, ?_, k3.at_ 0 _ _ rfl rfl, k5⟩
  simp only [loadVar, Sem.run_bind, Sem.run_pure, Result.andThen_ok, e1, Bool.false_eq_true, if_false, run_load, hy]
theorem P8 {t : TypeId} {a : a9} (h : (load E t a).run s = .ok v s') (ho : bT s') (hr : Rel E.P ρ m s.heap.get w) {x : Value} (hx : R ρ m a x) :
  Out E.P ρ m s w s' v ((Instr.loadAt t x).run E.P w) := by
 obtain ⟨ad, y, rfl, h1, h2, h3⟩ := II h ho hr hx
 simp only [Instr.loadAt, Instr.sureAddr, Sem.run_bind, Sem.run_pure, Result.andThen_ok, h1]
 exact .same hr h3 h2
theorem JN {t : TypeId} {a v : a9} {u : Unit} (h : (store E t a v).run s = .ok u s') (ho : bT s') (hr : Rel E.P ρ m s.heap.get w) {x y : Value} (hx : R ρ m a x) (hy : R ρ m v y) :
  ∃ w', (Instr.storeAt t x y).run E.P w = .ok () w' ∧ dV E.P ρ m s w ρ m s' w' := by
 obtain ⟨i, s1, h1, h2⟩ := M.aG h
 obtain ⟨hi, rfl⟩ := lI h1
 have e2 := hi.cZ (w := w)
 cases hb : v.cells.length.beq i.size with
 | false => rw [hb] at h2; exact (aC h2).elim
 | true =>
  rw [hb] at h2
  have hn := Nat.eq_of_beq_eq_true hb
  have hj : v ≠ .aA := by
   rintro rfl
   simp only [a9.cells] at h2
   unfold dN at h2
   split at h2
   ·obtain ⟨b, s1, k1, k2, ho1, _, _⟩ := M.aL h2 ho
    obtain ⟨c, t, rfl, k3⟩ := iW k2
    obtain ⟨_, s2, k4, k5, ho2, _, _⟩ := M.aL k3 ho
    exact (aC k5).elim
   ·exact (aC h2).elim
  have hc := hy.cells hj
  obtain ⟨ad, w', rfl, k1, k2⟩ := iJ h2 ho hr hx (xs := y.cells.toList) (by simpa using hc.len) (fun i p q hp hq => hc.at_ i p q hp (by simpa using hq))
  refine ⟨w', ?_, k2⟩
  have hsz : y.cells.size = i.size := by rw [← hc.len]; exact hn
  simp only [Instr.storeAt, Instr.sureAddr, storeVar, Sem.run_bind, Sem.run_pure, Result.andThen_ok, e2, hsz, ne_eq, not_true_eq_false, if_false, k1]
theorem xV {t : TypeId} {v v' : a9} (h : (alloc E t v).run s = .ok v' s') (ho : bT s') (hr : Rel E.P ρ m s.heap.get w) (hf : eC ρ s s') {y : Value} (hy : R ρ m v y) :
  ∃ a w' ρ', (newVar t y).run E.P w = .ok a w' ∧ dV E.P ρ m s w ρ' m s' w' ∧ R ρ' m v' (.pointer (some a)) := by
 unfold alloc at h
 split at h
 ·exact (aC h).elim
 rename_i hjb
 have hj : v ≠ .aA := by rintro rfl; cases hjb
 obtain ⟨id, s1, h1, h2⟩ := M.aG h
 obtain ⟨rfl, rfl⟩ := aD h2
 obtain ⟨i, s2, h3, h4⟩ := M.aG h1
 obtain ⟨hi, rfl⟩ := lI h3
 have hc := hy.cells hj
 obtain ⟨e, hp⟩ := sT h4 hr hf hi (arr := y.cells) (by simp [bG.size, hc.len]) (fun j z hjz hz => by
  simp only [bG.size] at hjz
  simp only [bG.at, gB, List.getElem?_eq_getElem hjz, Option.getD_some]
  exact hc.at_ j _ z (List.getElem?_eq_getElem hjz) hz)
 refine ⟨⟨w.heap.size, 0, none⟩, _, _, ?_, hp, .ptr id 0 ⟨w.heap.size, y.cells.size, i.size⟩ (by simp [Ren.put])⟩
 simp only [newVar, Go.newRow, Sem.run_bind, run_newObj_alloc, Result.andThen_ok, Sem.run_pure]
end
end Go.Am
set_option linter.unusedSimpArgs false
set_option linter.unusedVariables false
namespace Go.Am
open Go
variable {E : Env}
section
variable {ρ : Ren} {m : Mem} {s s' : St} {w : World} {v : a9}
theorem qE (off : Nat) : ∀ (l : List (Value × Nat)) (cs : Array Value), (l.foldl (fun cs (c, j) => cs.setIfInBounds (off + j) c) cs).size = cs.size
 | [], _ => rfl
 | p :: l, cs => by simp [List.foldl_cons, qE off l]
theorem sH (off : Nat) : ∀ (l : List Value) (k : Nat) (cs : Array Value) (i : Nat), off + k + l.length ≤ cs.size →
  ((l.zipIdx k).foldl (fun cs (c, j) => cs.setIfInBounds (off + j) c) cs)[i]? = if off + k ≤ i ∧ i < off + k + l.length then l[i - (off + k)]? else cs[i]?
 | [], k, cs, i, _ => by
  have : ¬ (off + k ≤ i ∧ i < off + k + ([] : List Value).length) := by simp only [List.length_nil]; omega
  rw [if_neg this]; rfl
 | c :: l, k, cs, i, h => by
  simp only [List.length_cons] at h
  simp only [List.zipIdx_cons, List.foldl_cons]
  rw [sH off l (k + 1) _ i (by simp; omega)]
  by_cases c1 : off + (k + 1) ≤ i ∧ i < off + (k + 1) + l.length
  ·have c2 : off + k ≤ i ∧ i < off + k + (c :: l).length := by simp only [List.length_cons]; omega
   rw [if_pos c1, if_pos c2]
   have : i - (off + k) = (i - (off + (k + 1))) + 1 := by omega
   rw [this, List.getElem?_cons_succ]
  ·rw [if_neg c1]
   by_cases c3 : i = off + k
   ·subst c3
    have c2 : off + k ≤ off + k ∧ off + k < off + k + (c :: l).length := by simp
    rw [if_pos c2]
    simp [show off + k < cs.size by omega]
   ·have c2 : ¬ (off + k ≤ i ∧ i < off + k + (c :: l).length) := by simp only [List.length_cons]; omega
    rw [if_neg c2, Array.getElem?_setIfInBounds]
    simp [show off + k ≠ i by omega]
inductive RP (ρ : Ren) (m : Mem) : List (Nat × a9) → List (Nat × Value) → Prop
 | nil : RP ρ m [] []
 | cons (i : Nat) (v : a9) (x : Value) (l : List (Nat × a9)) (l' : List (Nat × Value)) (h : R ρ m v x) (hl : RP ρ m l l') : RP ρ m ((i, v) :: l) ((i, x) :: l')
theorem zG {cs vs : List a9} {off : Nat} (h : off + vs.length ≤ cs.length) : (cs.take off ++ vs ++ cs.drop (off + vs.length)).length = cs.length := by
 simp only [List.length_append, List.length_take, List.length_drop]; omega
theorem FR {cs vs : List a9} {off : Nat} (h : off + vs.length ≤ cs.length) (i : Nat) :
  (cs.take off ++ vs ++ cs.drop (off + vs.length))[i]? = if off ≤ i ∧ i < off + vs.length then vs[i - off]? else cs[i]? := by
 by_cases c1 : i < off
 ·have c2 : ¬ (off ≤ i ∧ i < off + vs.length) := by omega
  rw [if_neg c2, List.append_assoc, List.getElem?_append_left (by simp; omega), List.getElem?_take_of_lt c1]
 ·by_cases c3 : i < off + vs.length
  ·rw [if_pos ⟨by omega, c3⟩, List.getElem?_append_left (by simp; omega), List.getElem?_append_right (by simp; omega)]
   congr 1; simp; omega
  ·have c2 : ¬ (off ≤ i ∧ i < off + vs.length) := by omega
   rw [if_neg c2, List.getElem?_append_right (by simp; omega), List.getElem?_drop]
   congr 1; simp; omega
theorem uD {place : Nat → Option (Nat × Nat)} : ∀ (parts : List (Nat × a9)) (parts' : List (Nat × Value)) (cs : List a9) (xs : Array Value) (out : List a9), RP ρ m parts parts' → RL ρ m cs xs →
  fill place cs parts = some out → ∃ out', Instr.fill place xs parts' = some out' ∧ RL ρ m out out'
 | [], _, cs, xs, out, hp, hc, h => by
  cases hp
  simp only [fill, Option.some.injEq] at h
  subst h
  exact ⟨xs, rfl, hc⟩
 | (i, v) :: parts, _, cs, xs, out, hp, hc, h => by
  cases hp with
  | cons _ _ x _ l' hv hl =>
   simp only [fill] at h
   cases hpl : place i with
   | none => rw [hpl] at h; cases h
   | some q =>
    obtain ⟨off, size⟩ := q
    rw [hpl] at h
    simp only at h
    split at h
    ·rename_i hcond
     simp only [Bool.and_eq_true] at hcond
     have hsz := Nat.eq_of_beq_eq_true hcond.1.2
     have hle := Nat.le_of_ble_eq_true hcond.2
     have hvc := hv.cells (by rintro rfl; simp [dD] at hcond)
     have hlen : x.cells.size = v.cells.length := hvc.len.symm
     have hcl : xs.size = cs.length := hc.len.symm
     simp only [Instr.fill, hpl]
     have e1 : ¬ (x.cells.size ≠ size ∨ off + x.cells.size > xs.size) := by omega
     have e1' : (x.cells.size ≠ size || decide (off + x.cells.size > xs.size)) = false := by
      simp only [Bool.or_eq_false_iff, decide_eq_false_iff_not, ne_eq]
      omega
     simp only [e1', Bool.false_eq_true, if_false]
     refine uD parts l' _ _ out hl ⟨?_, ?_⟩ h
     ·rw [zG hle]
      simp only [← Array.foldl_toList, Array.toList_zipIdx, qE, hcl]
     ·intro k a b ha hb
      rw [FR hle] at ha
      simp only [← Array.foldl_toList, Array.toList_zipIdx] at hb
      rw [sH off x.cells.toList 0 xs k (by simp; omega)] at hb
      by_cases c1 : off ≤ k ∧ k < off + v.cells.length
      ·rw [if_pos c1] at ha
       have c2 : off + 0 ≤ k ∧ k < off + 0 + x.cells.toList.length := by simp; omega
       rw [if_pos c2] at hb
       exact hvc.at_ (k - off) a b ha (by simpa using hb)
      ·rw [if_neg c1] at ha
       have c2 : ¬ (off + 0 ≤ k ∧ k < off + 0 + x.cells.toList.length) := by simp; omega
       rw [if_neg c2] at hb
       exact hc.at_ k a b ha hb
    ·cases h
theorem FU : ∀ (fs : List Field) {ps : List (Nat × Nat)} {s s' : St}, (wW E fs).run s = .ok ps s' → s' = s ∧ ∀ w, ((fs.toArray.mapM fun f => do pure (f.offset, ← Go.sizeOf f.type) : Sem (Array (Nat × Nat))).run E.P w) = .ok ps.toArray w := by
 intro fs
 suffices H : ∀ (fs : List Field) {ps : List (Nat × Nat)} {s s' : St}, (wW E fs).run s = .ok ps s' → s' = s ∧ ∀ w, ((fs.mapM fun f => do pure (f.offset, ← Go.sizeOf f.type) : Sem (List (Nat × Nat))).run E.P w) = .ok ps w by
  intro ps s s' h
  obtain ⟨h1, h2⟩ := H fs h
  refine ⟨h1, fun w => ?_⟩
  rw [List.mapM_toArray]
  simp only [Sem.run_map, h2 w, Result.andThen_ok]
 intro fs
 induction fs with
 | nil =>
  intro ps s s' h
  obtain ⟨rfl, rfl⟩ := aD h
  exact ⟨rfl, fun w => rfl⟩
 | cons f fs ih =>
  intro ps s s' h
  obtain ⟨n, s1, h1, h2⟩ := M.aG h
  obtain ⟨⟨i, hi, rfl⟩, rfl⟩ := fR h1
  obtain ⟨r, s2, h3, h4⟩ := M.aG h2
  obtain ⟨rfl, rfl⟩ := aD h4
  obtain ⟨rfl, h5⟩ := ih h3
  refine ⟨rfl, fun w => ?_⟩
  simp only [List.mapM_cons, Sem.run_bind, hi.cZ, Result.andThen_ok, Sem.run_pure, h5 w]
end
end Go.Am
set_option linter.unusedSimpArgs false
set_option linter.unusedVariables false
namespace Go.Am
open Go
variable {E : Env}
section
variable {ρ : Ren} {m : Mem} {s s' : St} {w : World} {v : a9}
theorem R.iH {l : List a9} {x : Value} (h : R ρ m (.agg l) x) : ∃ c, x = .agg c ∧ RL ρ m l c := by
 cases h with
 | agg l c hl hr => exact ⟨c, rfl, hl, hr⟩
theorem R.cH {k : IntKind} {n : Int} {x : Value} (h : R ρ m (.int k n) x) : x = .int k n := by cases h; rfl
theorem R.gR {l : List UInt8} {x : Value} (h : R ρ m (.str l) x) : x = .string ⟨⟨l⟩⟩ := by cases h; rfl
theorem R.iP {b : Bool} {x : Value} (h : R ρ m (.bool b) x) : x = .bool b := by cases h; rfl
theorem R.qP {b : Bool} {x : Value} (h : R ρ m (.fU b) x) : x = .bool b := by cases h; rfl
theorem TOk.uT {P : Program} {t : TypeId} {i : TI} (hi : TOk P t i) {z : Value} (h : ofValue z = i.zero) : RL ρ m i.zero.cells z.cells :=
 R.cells (by rw [← h]; exact gV z) (fun e => by have := hi.zj; rw [e] at this; cases this)
theorem LA {t : TypeId} {parts : List (Nat × a9)} {parts' : List (Nat × Value)} (h : (build E t parts).run s = .ok v s') (ho : bT s') (hr : Rel E.P ρ m s.heap.get w) (hp : RP ρ m parts parts') :
  Out E.P ρ m s w s' v ((Instr.build t parts'.toArray).run E.P w) := by
 obtain ⟨i, s1, h1, h2⟩ := M.aG h
 obtain ⟨hi, rfl⟩ := lI h1
 obtain ⟨z, hz, hzi⟩ := hi.lO (w := w)
 have hu := hi.dF (w := w)
 have hzc := hi.uT (ρ := ρ) (m := m) hzi
 cases hd : i.desc with
 | struct fs =>
  rw [hd] at h2 hu
  obtain ⟨ps, s2, h3, h4⟩ := M.aG h2
  obtain ⟨rfl, h7⟩ := FU _ h3
  obtain ⟨cs, s3, h5, h6⟩ := M.aG h4
  obtain ⟨h5g, rfl⟩ := j7 h5
  obtain ⟨rfl, rfl⟩ := aD h6
  obtain ⟨out, k1, k2⟩ := uD parts parts' _ _ cs hp hzc h5g
  have h8 := h7 w
  simp only [Instr.build, Sem.run_bind, hz, hu, Result.andThen_ok, h8, List.getElem?_toArray, k1, Sem.run_pure]
  exact .same hr (.refl _) (.agg _ _ k2.len k2.at_)
 | array n e =>
  rw [hd] at h2 hu
  obtain ⟨n, s2, h3, h4⟩ := M.aG h2
  obtain ⟨⟨j, hj, rfl⟩, rfl⟩ := fR h3
  obtain ⟨cs, s3, h5, h6⟩ := M.aG h4
  obtain ⟨h5g, rfl⟩ := j7 h5
  obtain ⟨rfl, rfl⟩ := aD h6
  obtain ⟨out, k1, k2⟩ := uD parts parts' _ _ cs hp hzc h5g
  simp only [Instr.build, Sem.run_bind, hz, hu, Result.andThen_ok, hj.cZ, k1, Sem.run_pure]
  exact .same hr (.refl _) (.agg _ _ k2.len k2.at_)
 | _ => rw [hd] at h2; exact (aC h2).elim
theorem mM (z : List a9) : ∀ n, (eY z n).length = n * z.length
 | 0 => by simp [eY]
 | n + 1 => by simp [eY, mM z n, Nat.succ_mul, Nat.add_comm]
theorem DM (z : List a9) : ∀ (n i : Nat), i < n * z.length → (eY z n)[i]? = z[i % z.length]?
 | 0, i, h => by simp at h
 | n + 1, i, h => by
  simp only [eY]
  by_cases hi : i < z.length
  ·rw [List.getElem?_append_left hi, Nat.mod_eq_of_lt hi]
  ·have hz : z.length ≤ i := by omega
   rw [List.getElem?_append_right hz, DM z n (i - z.length) (by rw [Nat.succ_mul] at h; omega), ← Nat.mod_eq_sub_mod hz]
theorem tM {zs : List a9} {zx : Array Value} (hz : RL ρ m zs zx) (n : Nat) : RL ρ m (eY zs n) ((Array.range (n * zx.size)).map (zx[· % zx.size]!)) := by
 refine ⟨by simp [mM, hz.len], fun i a b ha hb => ?_⟩
 have hi : i < n * zs.length := by
  have := (List.getElem?_eq_some_iff.1 ha).1
  rwa [mM] at this
 rw [DM _ _ _ hi] at ha
 have hpos : 0 < zs.length := by
  rcases Nat.eq_zero_or_pos zs.length with h0 | h0
  ·rw [h0] at hi; omega
  ·exact h0
 have hb' : b = zx[i % zx.size]! := by
  have hi' : i < n * zx.size := by rw [← hz.len]; exact hi
  simp only [Array.getElem?_map, Array.getElem?_range, hi', if_true, Option.map_some, Option.some.injEq] at hb
  exact hb.symm
 have hlt : i % zx.size < zx.size := Nat.mod_lt _ (by rw [← hz.len]; exact hpos)
 have e : zx[i % zx.size]? = some b := by
  rw [hb', Array.getElem?_eq_getElem hlt, getElem!_pos zx _ hlt]
 rw [hz.len] at ha
 exact hz.at_ _ a b ha e
theorem tV {t : TypeId} {cs : List a9} {id : Nat} (h : (newRow E t cs).run s = .ok id s') (hr : Rel E.P ρ m s.heap.get w) (hf : eC ρ s s') {arr : Array Value} (hc : RL ρ m cs arr) :
  ∃ i, TOk E.P t i ∧ dV E.P ρ m s w (ρ.put id ⟨w.heap.size, arr.size, i.size⟩) m s' (w.alloc (.cells arr t)) := by
 obtain ⟨i, s1, h1, h2⟩ := M.aG h
 obtain ⟨hi, rfl⟩ := lI h1
 obtain ⟨_, hp⟩ := sT h2 hr hf hi (arr := arr) (by simp [bG.size, hc.len]) (fun j z hjz hz => by
  simp only [bG.size] at hjz
  simp only [bG.at, gB, List.getElem?_eq_getElem hjz, Option.getD_some]
  exact hc.at_ j _ z (List.getElem?_eq_getElem hjz) hz)
 exact ⟨i, hi, hp⟩
theorem lP (P : Program) (w : World) (t : TypeId) (arr : Array Value) : (Go.newRow t arr).run P w = .ok ⟨w.heap.size, 0, none⟩ (w.alloc (.cells arr t)) := by
 simp only [Go.newRow, Sem.run_bind, run_newObj_alloc, Result.andThen_ok, Sem.run_pure]
theorem yX {t : TypeId} {len : Nat} {parts : List (Nat × a9)} {parts' : List (Nat × Value)} (h : (buildSlice E t len parts).run s = .ok v s') (ho : bT s') (hr : Rel E.P ρ m s.heap.get w) (hf : eC ρ s s')
  (hp : RP ρ m parts parts') : Out E.P ρ m s w s' v ((Instr.buildSlice t len parts'.toArray).run E.P w) := by
 obtain ⟨d, s1, h1, h2⟩ := M.aG h
 obtain ⟨⟨i, hi, rfl⟩, rfl⟩ := eI h1
 have hu := hi.dF (w := w)
 cases hd : i.desc with
 | slice e =>
  rw [hd] at h2 hu
  obtain ⟨j, s2, h3, h4⟩ := M.aG h2
  obtain ⟨hj, rfl⟩ := lI h3
  cases hb : (len * j.size).ble 16777216 with
  | false => rw [hb] at h4; exact (aC h4).elim
  | true =>
   rw [hb] at h4
   have hle := Nat.le_of_ble_eq_true hb
   obtain ⟨cs, s3, h5, h6⟩ := M.aG h4
   obtain ⟨h5g, rfl⟩ := j7 h5
   obtain ⟨id, s4, h7, h8⟩ := M.aG h6
   obtain ⟨rfl, rfl⟩ := aD h8
   obtain ⟨z, hz, hzi⟩ := hj.lO (w := w)
   have hzc := hj.uT (ρ := ρ) (m := m) hzi
   have hzs : z.cells.size = j.size := by rw [← hzc.len, hj.D3]
   have hle' : ¬ (len * j.size > 2 ^ 24) := by omega
   have hreps := tM hzc len
   rw [hzs] at hreps
   obtain ⟨out, k1, k2⟩ := uD parts parts' _ _ cs hp hreps h5g
   obtain ⟨j', hj', hp'⟩ := tV h7 hr hf k2
   have ej : j'.size = j.size := by
    have := hj'.lC
    rw [hj.lC] at this
    injection this with this
    exact this.symm
   refine ⟨_, _, _, ?_, hp', .slx id 0 len len j.size ⟨w.heap.size, out.size, j'.size⟩ (by simp [Ren.put]) (Nat.le_refl _)⟩
   simp only [Instr.buildSlice, Sem.run_bind, hu, hj.cZ, Result.andThen_ok, hle', if_false]
   by_cases h0 : len * j.size = 0
   ·have harr : ((Array.range (len * j.size)).map ((#[] : Array Value)[· % (#[] : Array Value).size]!)) = ((Array.range (len * j.size)).map (z.cells[· % j.size]!)) := by rw [h0]; simp
    rw [if_pos h0]
    simp only [Sem.run_bind, Result.andThen_ok, Sem.run_pure]
    rw [harr]
    simp only [k1, lP, Sem.run_bind, Result.andThen_ok, Sem.run_pure]
   ·rw [if_neg h0]
    simp only [Sem.run_bind, Result.andThen_ok, Sem.run_pure, hz, hzs, k1, lP]
 | _ => rw [hd] at h2; exact (aC h2).elim
theorem AE {n : Nat} {a : a9} (h : (aR n a).run s = .ok v s') {x : Value} (hx : R ρ m a x) : s' = s ∧ ∃ ad, x = .pointer (some ad) ∧ ad.spot = none ∧ R ρ m v (.pointer (some ⟨ad.block, ad.off + n, none⟩)) := by
 unfold aR at h
 split at h
 ·obtain ⟨rfl, rfl⟩ := aD h
  cases hx with
  | ptr id off r hρ => exact ⟨rfl, _, rfl, rfl, .ptr _ _ r hρ⟩
 ·rename_i f k off
  obtain ⟨rfl, rfl⟩ := aD h
  cases hx with
  | ip _ _ _ b o g' hg hrr =>
   refine ⟨rfl, _, rfl, rfl, ?_⟩
   have := R.ip (ρ := ρ) (m := m) f k (off + n) b o g' hg hrr
   rw [← Nat.add_assoc] at this
   exact this
 ·exact (aC h).elim
theorem FG {a : Addr} (h : a.spot = none) (n : Nat) : a.add n = ⟨a.block, a.off + n, none⟩ := by
 obtain ⟨b, o, sp⟩ := a
 simp only at h
 subst h
 exact dU b o n
theorem zQ {t : TypeId} {a : a9} {i : Nat} (h : (fieldAddr E t a i).run s = .ok v s') (hr : Rel E.P ρ m s.heap.get w) {x : Value} (hx : R ρ m a x) :
  Out E.P ρ m s w s' v ((Instr.fieldAt t x i).run E.P w) := by
 obtain ⟨d, s1, h1, h2⟩ := M.aG h
 obtain ⟨⟨i0, hi, rfl⟩, rfl⟩ := eI h1
 have hu := hi.dF (w := w)
 cases hd : i0.desc with
 | struct fs =>
  rw [hd] at h2 hu
  obtain ⟨f, s2, h3, h4⟩ := M.aG h2
  obtain ⟨h3g, rfl⟩ := j7 h3
  obtain ⟨n, s3, h5, h6⟩ := M.aG h4
  obtain ⟨⟨j, hj, rfl⟩, rfl⟩ := fR h5
  cases hb : j.size.beq 0 with
  | true => rw [hb] at h6; exact (aC h6).elim
  | false =>
   rw [hb] at h6
   have hne : ¬ j.size = 0 := fun e => by rw [e] at hb; cases hb
   obtain ⟨rfl, ad, rfl, hsp, hv⟩ := AE h6 hx
   have hf : fs[i]? = some f := by simpa using h3g
   simp only [Instr.fieldAt, Sem.run_bind, hu, Result.andThen_ok, hf, Instr.sureAddr, Sem.run_pure, fieldPlace, hj.cZ, hne, if_false, FG hsp]
   exact .same hr (.refl _) hv
 | _ => rw [hd] at h2; exact (aC h2).elim
theorem y0 {i : Int} {len j : Nat} (h : (idx i len).run s = .ok j s') (ho : bT s') : (0 ≤ i ∧ i < (len : Int)) ∧ j = i.toNat ∧ fL s s' := by
 obtain ⟨_, s1, h1, h2, ho1, _, _⟩ := M.aL h ho
 obtain ⟨rfl, rfl⟩ := aD h2
 obtain ⟨h3, h4⟩ := dQ h1 ho1
 exact ⟨of_decide_eq_true h3, rfl, h4⟩
theorem X2 {α : Type} {k : Nat → Nat → Nat → Option Nat → Nat → M α} {k2 : (Nat → a9) → Nat → Nat → Nat → M α} {v : a9} {a : α} (h : (slK k k2 v).run s = .ok a s') :
  (∃ id off len cap sz, v = .sl id off len cap sz ∧ (k id off len cap sz).run s = .ok a s') ∨ (∃ g sz off len, v = .isl g sz off len ∧ (k2 g sz off len).run s = .ok a s') := by
 unfold slK at h
 split at h
 ·exact .inl ⟨_, _, _, _, _, rfl, h⟩
 ·exact .inr ⟨_, _, _, _, rfl, h⟩
 ·exact (aC h).elim
theorem zP {t : TypeId} {a i : a9} (h : (indexAddr E t a i).run s = .ok v s') (ho : bT s') (hr : Rel E.P ρ m s.heap.get w) {x y : Value} (hx : R ρ m a x) (hy : R ρ m i y) :
  Out E.P ρ m s w s' v ((Instr.indexAt t x y).run E.P w) := by
 obtain ⟨d, s1, h1, h2⟩ := M.aG h
 obtain ⟨⟨i0, hi, rfl⟩, rfl⟩ := eI h1
 have hu := hi.dF (w := w)
 obtain ⟨q, n, rfl, h3⟩ := oJ h2
 obtain rfl := hy.cH
 cases hd : i0.desc with
 | array len e =>
  rw [hd] at h3 hu
  obtain ⟨k, s2, h4, h5⟩ := M.aG h3
  obtain ⟨⟨j, hj, rfl⟩, rfl⟩ := fR h4
  obtain ⟨p, s3, h6, h7, ho3, _, _⟩ := M.aL h5 ho
  obtain ⟨hb, rfl, e1⟩ := y0 h6 ho3
  obtain ⟨rfl, ad, rfl, hsp, hv⟩ := AE h7 hx
  have hb' : 0 ≤ n ∧ n < (len : Int) := hb
  simp only [Instr.indexAt, asIntOf, Sem.run_bind, hu, Result.andThen_ok, Instr.sureAddr, Sem.run_pure, hb', and_self, if_true, hj.cZ, FG hsp]
  exact .same hr e1 hv
 | slice e =>
  rw [hd] at h3 hu
  obtain ⟨k, s2, h4, h5⟩ := M.aG h3
  obtain ⟨⟨j, hj, rfl⟩, rfl⟩ := fR h4
  rcases X2 h5 with ⟨id, off, len, cap, sz, rfl, h6⟩ | ⟨g, sz, off, len, rfl, h6⟩
  ·cases hb : j.size.beq sz with
   | false => rw [hb] at h6; exact (aC h6).elim
   | true =>
    rw [hb] at h6
    obtain ⟨p, s3, h7, h8, ho3, _, _⟩ := M.aL h6 ho
    obtain ⟨rfl, rfl⟩ := aD h8
    obtain ⟨hb', rfl, e1⟩ := y0 h7 ho3
    cases hx with
    | slx _ _ _ c _ r hρ hl =>
     simp only [Instr.indexAt, asIntOf, Sem.run_bind, hu, Result.andThen_ok, Sem.run_pure, hb', and_self, if_true, hj.cZ, dU]
     exact .same hr e1 (.ptr _ _ r hρ)
    | slw _ _ _ c _ r hρ hl hs hc =>
     simp only [Instr.indexAt, asIntOf, Sem.run_bind, hu, Result.andThen_ok, Sem.run_pure, hb', and_self, if_true, hj.cZ, dU]
     exact .same hr e1 (.ptr _ _ r hρ)
    | sl0 => omega
  ·cases hb : j.size.beq sz with
   | false => rw [hb] at h6; exact (aC h6).elim
   | true =>
    rw [hb] at h6
    have hz := Nat.eq_of_beq_eq_true hb
    obtain ⟨p, s3, h7, h8, ho3, _, _⟩ := M.aL h6 ho
    obtain ⟨rfl, rfl⟩ := aD h8
    obtain ⟨hb', rfl, e1⟩ := y0 h7 ho3
    cases hx with
    | isl _ _ _ _ b o c g' hg hrr hl =>
     simp only [Instr.indexAt, asIntOf, Sem.run_bind, hu, Result.andThen_ok, Sem.run_pure, hb', and_self, if_true, hj.cZ, dU]
     refine .same hr e1 ?_
     have := R.ip (ρ := ρ) (m := m) g (off + len * sz) (off + n.toNat * j.size) b o g' hg hrr
     rw [← Nat.add_assoc] at this
     exact this
    | uA => omega
 | _ => rw [hd] at h3; exact (aC h3).elim
theorem kP {t : TypeId} {cs : List a9} {off : Nat} (h : (part E t cs off).run s = .ok v s') {xs : Array Value} (hx : RL ρ m cs xs) (w : World) :
  s' = s ∧ ∃ x, (Go.part t xs off).run E.P w = .ok x w ∧ R ρ m v x := by
 obtain ⟨i, s1, h1, h2⟩ := M.aG h
 obtain ⟨hi, rfl⟩ := lI h1
 have e1 := hi.A5 (w := w)
 cases hb : jG i.desc with
 | true =>
  rw [hb] at h2 e1
  obtain ⟨rfl, rfl⟩ := aD h2
  refine ⟨rfl, .agg (xs.extract off (off + i.size)), by simp only [Go.part, Sem.run_bind, e1, Result.andThen_ok, if_true, hi.cZ, Sem.run_pure], .agg _ _ ?_ ?_⟩
  ·simp only [List.length_take, List.length_drop, Array.size_extract, hx.len]; omega
  ·intro k a b ha hb'
   have hk : k < i.size := by
    have := (List.getElem?_eq_some_iff.1 ha).1
    simp only [List.length_take] at this; omega
   rw [List.getElem?_take_of_lt hk, List.getElem?_drop] at ha
   rw [Array.getElem?_extract] at hb'
   split at hb'
   ·exact hx.at_ _ a b ha hb'
   ·cases hb'
 | false =>
  rw [hb] at h2 e1
  obtain ⟨h3, rfl⟩ := j7 h2
  have hlt := (List.getElem?_eq_some_iff.1 h3).1
  have hx' : xs[off]? = some (xs[off]'(by rw [← hx.len]; exact hlt)) := Array.getElem?_eq_getElem _
  refine ⟨rfl, _, by simp only [Go.part, Sem.run_bind, e1, Result.andThen_ok, Bool.false_eq_true, if_false, hx', Sem.run_pure], hx.at_ _ _ _ h3 hx'⟩
theorem KU {t : TypeId} {a : a9} {i : Nat} (h : (field E t a i).run s = .ok v s') (hr : Rel E.P ρ m s.heap.get w) {x : Value} (hx : R ρ m a x) :
  Out E.P ρ m s w s' v ((Instr.field t x i).run E.P w) := by
 obtain ⟨d, s1, h1, h2⟩ := M.aG h
 obtain ⟨⟨i0, hi, rfl⟩, rfl⟩ := eI h1
 have hu := hi.dF (w := w)
 cases hd : i0.desc with
 | struct fs =>
  rw [hd] at h2 hu
  obtain ⟨l, rfl, h3⟩ := kU h2
  obtain ⟨xs, rfl, hxs⟩ := hx.iH
  obtain ⟨f, s2, h4, h5⟩ := M.aG h3
  obtain ⟨h4g, rfl⟩ := j7 h4
  obtain ⟨rfl, y, h6, h7⟩ := kP h5 hxs w
  have hf : fs[i]? = some f := by simpa using h4g
  simp only [Instr.field, Sem.run_bind, hu, Result.andThen_ok, hf, asAgg, Sem.run_pure, h6]
  exact .same hr (.refl _) h7
 | _ => rw [hd] at h2; exact (aC h2).elim
theorem KJ {t : TypeId} {a i : a9} (h : (index E t a i).run s = .ok v s') (ho : bT s') (hr : Rel E.P ρ m s.heap.get w) {x y : Value} (hx : R ρ m a x) (hy : R ρ m i y) :
  Out E.P ρ m s w s' v ((Instr.index t x y).run E.P w) := by
 obtain ⟨d, s1, h1, h2⟩ := M.aG h
 obtain ⟨⟨i0, hi, rfl⟩, rfl⟩ := eI h1
 have hu := hi.dF (w := w)
 obtain ⟨q, n, rfl, h3⟩ := oJ h2
 obtain rfl := hy.cH
 cases hd : i0.desc with
 | array len e =>
  rw [hd] at h3 hu
  obtain ⟨l, rfl, h4⟩ := kU h3
  obtain ⟨xs, rfl, hxs⟩ := hx.iH
  obtain ⟨p, s3, h6, h7, ho3, _, _⟩ := M.aL h4 ho
  obtain ⟨hb, rfl, e1⟩ := y0 h6 ho3
  obtain ⟨k, s4, h8, h9⟩ := M.aG h7
  obtain ⟨⟨j, hj, rfl⟩, rfl⟩ := fR h8
  obtain ⟨rfl, z, h10, h11⟩ := kP h9 hxs w
  simp only [Instr.index, asIntOf, Sem.run_bind, hu, Result.andThen_ok, Sem.run_pure, hb, and_self, if_true, hj.cZ, h10]
  exact .same hr e1 h11
 | string =>
  rw [hd] at h3 hu
  obtain ⟨l, rfl, h4⟩ := lK h3
  obtain rfl := hx.gR
  obtain ⟨p, s3, h6, h7, ho3, _, _⟩ := M.aL h4 ho
  obtain ⟨hb, rfl, e1⟩ := y0 h6 ho3
  obtain ⟨rfl, rfl⟩ := aD h7
  have hlt : n.toNat < l.length := by omega
  have hget : (⟨⟨l⟩⟩ : ByteArray)[n.toNat]? = some l[n.toNat] := by
   have : n.toNat < (⟨⟨l⟩⟩ : ByteArray).size := hlt
   rw [getElem?_pos (⟨⟨l⟩⟩ : ByteArray) n.toNat this]
   rfl
  simp only [Instr.index, asIntOf, Sem.run_bind, hu, Result.andThen_ok, Sem.run_pure, hb.1, if_true, hget]
  refine .same hr e1 ?_
  have : HH l n.toNat = l[n.toNat] := by simp [HH, List.getD, List.getElem?_eq_getElem hlt]
  rw [this]
  exact .int _ _
 | _ => rw [hd] at h3; exact (aC h3).elim
end
end Go.Am
set_option linter.unusedSimpArgs false
set_option linter.unusedVariables false
namespace Go.Am
open Go
variable {E : Env}
section
variable {ρ : Ren} {m : Mem} {s s' : St} {w : World} {v : a9}
inductive RO (ρ : Ren) (m : Mem) : Option a9 → Option Value → Prop
 | none : RO ρ m none none
 | some (v : a9) (x : Value) (h : R ρ m v x) : RO ρ m (some v) (some x)
theorem qO {o : Option a9} {d most n : Nat} (h : (cL o d most).run s = .ok n s') (ho : bT s') {x : Option Value} (hx : RO ρ m o x) :
  fL s s' ∧ ((o = none ∧ x = none ∧ n = d) ∨ ∃ k i, o = some (.int k i) ∧ x = some (.int k i) ∧ 0 ≤ i ∧ i ≤ (most : Int) ∧ n = i.toNat) := by
 unfold cL at h
 cases hx with
 | none =>
  obtain ⟨rfl, rfl⟩ := aD h
  exact ⟨.refl _, .inl ⟨rfl, rfl, rfl⟩⟩
 | some v x hv =>
  obtain ⟨q, i, rfl, h2⟩ := oJ h
  obtain rfl := hv.cH
  obtain ⟨_, s1, h3, h4, ho1, _, _⟩ := M.aL h2 ho
  obtain ⟨rfl, rfl⟩ := aD h4
  obtain ⟨h5, h6⟩ := dQ h3 ho1
  have h5' := of_decide_eq_true h5
  exact ⟨h6, .inr ⟨q, i, rfl, rfl, h5'.1, h5'.2, rfl⟩⟩
theorem dZ {P : Program} {k : IntKind} {i : Int} {y : Nat} (c : BoundsCode) (h0 : 0 ≤ i) (h1 : i ≤ (y : Int)) : (Instr.sliceBound (.int k i) y c).run P w = .ok i.toNat w := by
 simp only [Instr.sliceBound, asIntOf, Sem.run_bind, Sem.run_pure, Result.andThen_ok, h0, h1, and_self, if_true]
theorem fE {P : Program} {isSl : Bool} {len cap most : Nat} {lo hi : Option a9} {lo' hi' : Option Value} {l h : Nat} {s1 s2 : St} (k1 : (cL hi len most).run s = .ok h s1) (k2 : (cL lo 0 h).run s1 = .ok l s2) (ho : bT s2)
  (hl : RO ρ m lo lo') (hh : RO ρ m hi hi') (hlen : len ≤ most) (hcap : most ≤ cap) :
  (Instr.sliceBounds isSl len cap lo' hi' none).run P w = .ok (l, h, cap) w ∧ l ≤ h ∧ h ≤ most ∧ fL s s2 := by
 obtain ⟨_, _, o, d⟩ := (cL lo 0 h).loc _ _ _ k2
 obtain ⟨e1, c1⟩ := qO k1 (ho.of d.obs) hh
 obtain ⟨e2, c2⟩ := qO k2 ho hl
 have hhm : h ≤ most := by
  rcases c1 with ⟨_, _, rfl⟩ | ⟨k, i, _, _, a, b, rfl⟩ <;> omega
 have hlh : l ≤ h := by
  rcases c2 with ⟨_, _, rfl⟩ | ⟨k, i, _, _, a, b, rfl⟩ <;> omega
 refine ⟨?_, hlh, hhm, e1.trans e2⟩
 rcases c1 with ⟨_, rfl, rfl⟩ | ⟨k, i, _, rfl, a, b, rfl⟩
 ·rcases c2 with ⟨_, rfl, rfl⟩ | ⟨k2, i2, _, rfl, a2, b2, rfl⟩
  ·rfl
  ·simp only [Instr.sliceBounds, Sem.run_bind, Sem.run_pure, Result.andThen_ok, dZ _ a2 b2, Option.isSome, Bool.false_eq_true, if_false]
 ·have b' : i ≤ (cap : Int) := by omega
  rcases c2 with ⟨_, rfl, rfl⟩ | ⟨k2, i2, _, rfl, a2, b2, rfl⟩
  ·simp only [Instr.sliceBounds, Sem.run_bind, Sem.run_pure, Result.andThen_ok, dZ _ a b']
  ·simp only [Instr.sliceBounds, Sem.run_bind, Sem.run_pure, Result.andThen_ok, dZ _ a b', dZ _ a2 b2, Option.isSome, Bool.false_eq_true, if_false]
theorem iK {P : Program} {len cap most d : Nat} {lo hi mx : Option a9} {lo' hi' mx' : Option Value} {l h q : Nat} {s1 s2 s3 : St} (k0 : (cL mx d most).run s = .ok q s1) (k1 : (cL hi len q).run s1 = .ok h s2) (k2 : (cL lo 0 h).run s2 = .ok l s3) (ho : bT s3)
  (hl : RO ρ m lo lo') (hh : RO ρ m hi hi') (hm : RO ρ m mx mx') (hi0 : hi ≠ none) (mx0 : mx ≠ none) (hcap : most ≤ cap) :
  (Instr.sliceBounds true len cap lo' hi' mx').run P w = .ok (l, h, q) w ∧ l ≤ h ∧ h ≤ q ∧ q ≤ most ∧ fL s s3 := by
 obtain ⟨_, _, o2, d2⟩ := (cL lo 0 h).loc _ _ _ k2
 obtain ⟨_, _, o1, d1⟩ := (cL hi len q).loc _ _ _ k1
 have ho2 := ho.of d2.obs
 obtain ⟨e0, c0⟩ := qO k0 (ho2.of d1.obs) hm
 obtain ⟨e1, c1⟩ := qO k1 ho2 hh
 obtain ⟨e2, c2⟩ := qO k2 ho hl
 rcases c0 with ⟨x, _, _⟩ | ⟨k3, i3, _, rfl, a3, b3, rfl⟩
 ·exact absurd x mx0
 rcases c1 with ⟨x, _, _⟩ | ⟨k, i, _, rfl, a, b, rfl⟩
 ·exact absurd x hi0
 have b3' : i3 ≤ (cap : Int) := by omega
 have hlh : l ≤ i.toNat := by
  rcases c2 with ⟨_, _, rfl⟩ | ⟨k, i, _, _, a, b, rfl⟩ <;> omega
 have g1 : i.toNat ≤ i3.toNat := Int.toNat_le.mpr b
 have g2 : i3.toNat ≤ most := Int.toNat_le.mpr b3
 refine ⟨?_, hlh, g1, g2, (e0.trans e1).trans e2⟩
 rcases c2 with ⟨_, rfl, rfl⟩ | ⟨k2, i2, _, rfl, a2, b2, rfl⟩
 ·simp only [Instr.sliceBounds, Sem.run_bind, Sem.run_pure, Result.andThen_ok, dZ _ a3 b3', dZ _ a b, if_true]
 ·simp only [Instr.sliceBounds, Sem.run_bind, Sem.run_pure, Result.andThen_ok, dZ _ a3 b3', dZ _ a b, dZ _ a2 b2, Option.isSome, if_true]
theorem yY {α β γ : Type} {a : M α} {f : α → M β} {g : α → β → M γ} {c : γ} (h : (a.bind fun x => (f x).bind fun y => g x y).run s = .ok c s') (ho : bT s') :
  ∃ x y s1 s2, a.run s = .ok x s1 ∧ (f x).run s1 = .ok y s2 ∧ (g x y).run s2 = .ok c s' ∧ bT s2 := by
 obtain ⟨x, s1, h1, h2, ho1, _, _⟩ := M.aL h ho
 obtain ⟨y, s2, h3, h4, ho2, _, _⟩ := M.aL h2 ho
 exact ⟨x, y, s1, s2, h1, h3, h4, ho2⟩
theorem JV {id off len n q : Nat} {hi : Option a9} (h : (lR id off len n hi).run s = .ok q s') : fL s s' ∧ (q = len ∨ ∃ c t, s.heap.get id = some (.row c t) ∧ q = max len ((c.size - off) / n)) := by
 unfold lR at h
 split at h
 ·split at h
  ·obtain ⟨rfl, rfl⟩ := aD h; exact ⟨.refl _, .inl rfl⟩
  ·obtain ⟨b, s1, h1, h2⟩ := M.aG h
   obtain ⟨hg, e1⟩ := dE h1
   obtain ⟨c, t, rfl, h3⟩ := iW h2
   obtain ⟨rfl, rfl⟩ := aD h3
   exact ⟨e1, .inr ⟨c, t, hg, rfl⟩⟩
 ·obtain ⟨rfl, rfl⟩ := aD h; exact ⟨.refl _, .inl rfl⟩
theorem A6 {P : Program} {w : World} {id off len n q : Nat} {r : RB} {cc : Nat} (hr : Rel P ρ m s.heap.get w) (hρ : ρ id = some r) (hlc : len ≤ cc) (hc : r.n ≤ off + cc * n) (hq : q = len ∨ ∃ c t, s.heap.get id = some (.row c t) ∧ q = max len ((c.size - off) / n)) : len ≤ q ∧ q ≤ cc := by
 rcases hq with rfl | ⟨c, t, hg, rfl⟩
 ·exact ⟨Nat.le_refl _, hlc⟩
 ·refine ⟨Nat.le_max_left _ _, Nat.max_le.2 ⟨hlc, ?_⟩⟩
  obtain ⟨rb, o, h1, h2, h3, h4⟩ := hr.dL id _ hg
  rw [hρ] at h1
  injection h1 with h1
  subst h1
  cases h3 with
  | row _ _ arr fr hs hn hcs hrr hf =>
   have : c.size - off ≤ cc * n := by omega
   by_cases h0 : n = 0
   ·subst h0; simp
   ·exact Nat.div_le_of_le_mul (by rw [Nat.mul_comm]; exact this)
theorem J8 {α β γ δ : Type} {a : M α} {f : α → M β} {g : α → β → M γ} {e : α → β → γ → M δ} {c : δ} (h : (a.bind fun x => (f x).bind fun y => (g x y).bind fun z => e x y z).run s = .ok c s') (ho : bT s') :
  ∃ x y z s1 s2 s3, a.run s = .ok x s1 ∧ (f x).run s1 = .ok y s2 ∧ (g x y).run s2 = .ok z s3 ∧ (e x y z).run s3 = .ok c s' ∧ bT s3 := by
 obtain ⟨x, s1, h1, h2, ho1, _, _⟩ := M.aL h ho
 obtain ⟨y, s2, h3, h4, ho2, _, _⟩ := M.aL h2 ho
 obtain ⟨z, s3, h5, h6, ho3, _, _⟩ := M.aL h4 ho
 exact ⟨x, y, z, s1, s2, s3, h1, h3, h5, h6, ho3⟩
theorem jM (l : List UInt8) (h k : Nat) : (⟨⟨l⟩⟩ : ByteArray).extract k h = ⟨⟨(l.take h).drop k⟩⟩ := by
 have : ((⟨⟨l⟩⟩ : ByteArray).extract k h).data.toList = (l.take h).drop k := by
  rw [ByteArray.data_extract]
  simp [List.extract_eq_take_drop, List.drop_take]
 cases hh : (⟨⟨l⟩⟩ : ByteArray).extract k h with
 | mk d =>
  rw [hh] at this
  cases d with
  | mk t => simp only at this; rw [this]
theorem JO {t : TypeId} {a : a9} {lo hi mx : Option a9} (h : (slice E t a lo hi mx).run s = .ok v s') (ho : bT s') (hr : Rel E.P ρ m s.heap.get w) {x : Value} {lo' hi' mx' : Option Value} (hx : R ρ m a x)
  (hl : RO ρ m lo lo') (hh : RO ρ m hi hi') (hm : RO ρ m mx mx') : Out E.P ρ m s w s' v ((Instr.sliceAt t x lo' hi' mx').run E.P w) := by
 obtain ⟨d, s1, h1, h2⟩ := M.aG h
 obtain ⟨⟨i0, hi0, rfl⟩, rfl⟩ := eI h1
 have hu := hi0.dF (w := w)
 cases hd : i0.desc with
 | string =>
  rw [hd] at h2 hu
  cases hm with
  | some _ _ _ => exact (aC h2).elim
  | none =>
   obtain ⟨l, rfl, h3⟩ := lK h2
   obtain rfl := hx.gR
   obtain ⟨hq, lq, s2, s3, k1, k2, k3, ho3⟩ := yY h3 ho
   obtain ⟨rfl, rfl⟩ := aD k3
   obtain ⟨b1, b2, b3, b4⟩ := fE (P := E.P) (w := w) (isSl := false) (cap := l.length) k1 k2 ho3 hl hh (Nat.le_refl _) (Nat.le_refl _)
   have hsz : (⟨⟨l⟩⟩ : ByteArray).size = l.length := rfl
   simp only [Instr.sliceAt, Instr.slice, Sem.run_bind, hu, Result.andThen_ok, Option.isSome, Bool.false_eq_true, if_false, hsz, b1, Sem.run_pure, jM]
   exact .same hr b4 (.str _)
 | slice e =>
  rw [hd] at h2 hu
  obtain ⟨n, s2, h3, h4⟩ := M.aG h2
  obtain ⟨⟨j, hj, rfl⟩, rfl⟩ := fR h3
  have hz := hj.cZ (w := w)
  cases hm with
  | none =>
   simp only at h4
   split at h4
   ·obtain ⟨hq, lq, s2, s3, k1, k2, k3, ho3⟩ := yY h4 ho
    obtain ⟨rfl, rfl⟩ := aD k3
    cases hx with
    | aN =>
     obtain ⟨b1, b2, b3, b4⟩ := fE (P := E.P) (w := w) (isSl := true) (cap := 0) k1 k2 ho3 hl hh (Nat.le_refl _) (Nat.le_refl _)
     obtain rfl : hq = 0 := by omega
     obtain rfl : lq = 0 := by omega
     simp only [Instr.sliceAt, Instr.slice, Sem.run_bind, hu, Result.andThen_ok, b1, hz, Sem.run_pure]
     exact .same hr b4 .aN
   ·obtain ⟨hq, lq, s2, s3, k1, k2, k3, ho3⟩ := yY h4 ho
    obtain ⟨rfl, rfl⟩ := aD k3
    cases hx with
    | emp ad =>
     obtain ⟨b1, b2, b3, b4⟩ := fE (P := E.P) (w := w) (isSl := true) (cap := 0) k1 k2 ho3 hl hh (Nat.le_refl _) (Nat.le_refl _)
     obtain rfl : hq = 0 := by omega
     obtain rfl : lq = 0 := by omega
     simp only [Instr.sliceAt, Instr.slice, Sem.run_bind, hu, Result.andThen_ok, b1, hz, Sem.run_pure]
     exact .same hr b4 (.emp _)
   ·rename_i g sz off len
    obtain ⟨hsz, h5⟩ := dM h4
    obtain ⟨hq, lq, s2, s3, k1, k2, k3, ho3⟩ := yY h5 ho
    obtain ⟨rfl, rfl⟩ := aD k3
    cases hx with
    | isl _ _ _ _ b o c g' hg hrr hlc =>
     obtain ⟨b1, b2, b3, b4⟩ := fE (P := E.P) (w := w) (isSl := true) (cap := c) k1 k2 ho3 hl hh (Nat.le_refl _) hlc
     simp only [Instr.sliceAt, Instr.slice, Sem.run_bind, hu, Result.andThen_ok, b1, hz, Sem.run_pure, Option.map_some, dU]
     refine .same hr b4 ?_
     by_cases e0 : c = lq
     ·subst e0
      have : hq - c = 0 := by omega
      rw [this, if_pos rfl]
      exact .uA _ _ _ _ _
     ·rw [if_neg e0]
      have hle : off + lq * j.size + (hq - lq) * sz ≤ off + len * sz := by
       rw [hsz, Nat.add_assoc, ← Nat.add_mul]
       exact Nat.add_le_add_left (Nat.mul_le_mul_right _ (by omega)) _
      have := R.isl (ρ := ρ) (m := m) g sz (off + lq * j.size) (hq - lq) b o (c - lq) g' (fun k hk => hg k (by omega)) (fun k hk => hrr k (by omega)) (by omega)
      rw [← Nat.add_assoc] at this
      exact this
    | uA _ _ _ c ad =>
     obtain ⟨b1, b2, b3, b4⟩ := fE (P := E.P) (w := w) (isSl := true) (cap := c) k1 k2 ho3 hl hh (Nat.le_refl _) (Nat.zero_le _)
     obtain rfl : hq = 0 := by omega
     obtain rfl : lq = 0 := by omega
     simp only [Instr.sliceAt, Instr.slice, Sem.run_bind, hu, Result.andThen_ok, b1, hz, Sem.run_pure, Option.map_some]
     split <;> exact .same hr b4 (.uA _ _ _ _ _)
   ·rename_i id off len cap sz
    obtain ⟨hsz, h5⟩ := dM h4
    cases cap with
    | some c =>
     obtain ⟨hq, lq, s2, s3, k1, k2, k3, ho3⟩ := yY h5 ho
     obtain ⟨rfl, rfl⟩ := aD k3
     cases hx with
     | slx _ _ _ _ _ r hρ hlc =>
      obtain ⟨b1, b2, b3, b4⟩ := fE (P := E.P) (w := w) (isSl := true) (cap := c) k1 k2 ho3 hl hh hlc (Nat.le_refl _)
      simp only [Instr.sliceAt, Instr.slice, Sem.run_bind, hu, Result.andThen_ok, b1, hz, Sem.run_pure, Option.map_some, dU]
      refine .same hr b4 ?_
      by_cases e0 : c = lq
      ·subst e0
       rw [if_pos rfl]
       have e1 : hq - c = 0 := by omega
       have e2 : c - c = 0 := by omega
       rw [e1, e2]
       exact .sl0 _ _ _ _ _ (fun k hk => by simpa using hk.symm) (fun hk => by cases hk)
      ·rw [if_neg e0]
       exact .slx _ _ _ _ _ r hρ (by omega)
     | sl0 _ _ _ _ ad hc hn =>
      obtain rfl : c = 0 := hc c rfl
      obtain ⟨b1, b2, b3, b4⟩ := fE (P := E.P) (w := w) (isSl := true) (cap := 0) k1 k2 ho3 hl hh (Nat.le_refl _) (Nat.le_refl _)
      obtain rfl : hq = 0 := by omega
      obtain rfl : lq = 0 := by omega
      simp only [Instr.sliceAt, Instr.slice, Sem.run_bind, hu, Result.andThen_ok, b1, hz, Sem.run_pure]
      exact .same hr b4 (.sl0 _ _ _ _ _ (fun k hk => by simpa using hk.symm) (fun hk => by cases hk))
    | none =>
     obtain ⟨most, s0, k0, h5'⟩ := M.aG h5
     obtain ⟨e0', hq0⟩ := JV k0
     obtain ⟨hq, lq, s2, s3, k1, k2, k3, ho3⟩ := yY h5' ho
     obtain ⟨rfl, rfl⟩ := aD k3
     cases hx with
     | slw _ _ _ c _ r hρ hlc hs hc =>
      obtain ⟨m1, m2⟩ := A6 hr hρ hlc (by rw [← hsz] at hc; omega) hq0
      obtain ⟨b1, b2, b3, b4'⟩ := fE (P := E.P) (w := w) (isSl := true) (cap := c) k1 k2 ho3 hl hh m1 m2
      have b4 := e0'.trans b4'
      simp only [Instr.sliceAt, Instr.slice, Sem.run_bind, hu, Result.andThen_ok, b1, hz, Sem.run_pure, Option.map_some, dU]
      refine .same hr b4 ?_
      by_cases e0 : c = lq
      ·subst e0
       rw [if_pos rfl]
       have e1 : hq - c = 0 := by omega
       have e2 : c - c = 0 := by omega
       rw [e1, e2]
       exact .sl0 _ _ _ _ _ (fun k hk => by cases hk) (fun _ => ⟨r, hρ, by rw [← hc, hsz]; exact Nat.le_refl _⟩)
      ·rw [if_neg e0]
       refine .slw _ _ _ _ _ r hρ (by omega) hs ?_
       rw [hsz, Nat.add_assoc, ← Nat.add_mul]
       have : lq + (c - lq) = c := by omega
       rw [this]; exact hc
     | sl0 _ _ _ _ ad hc hn =>
      obtain ⟨r0, hρ0, hn0⟩ := hn rfl
      obtain ⟨m1, m2⟩ := A6 (cc := 0) hr hρ0 (Nat.le_refl _) (by omega) hq0
      obtain ⟨b1, b2, b3, b4'⟩ := fE (P := E.P) (w := w) (isSl := true) (cap := 0) k1 k2 ho3 hl hh m1 m2
      have b4 := e0'.trans b4'
      obtain rfl : hq = 0 := by omega
      obtain rfl : lq = 0 := by omega
      simp only [Instr.sliceAt, Instr.slice, Sem.run_bind, hu, Result.andThen_ok, b1, hz, Sem.run_pure]
      exact .same hr b4 (.sl0 _ _ _ _ _ (fun k hk => by cases hk) (fun e => by obtain ⟨r, h1, h2⟩ := hn e; exact ⟨r, h1, by omega⟩))
   ·exact (aC h4).elim
  | some mv mxv hmv =>
   simp only at h4
   cases hi with
   | none => exact (aC h4).elim
   | some hv =>
    simp only at h4
    split at h4
    ·obtain ⟨q, hq, lq, s1, s2, s3, k0, k1, k2, k3, ho3⟩ := J8 h4 ho
     obtain ⟨rfl, rfl⟩ := aD k3
     cases hx with
     | aN =>
      obtain ⟨b1, b2, b3, b5, b4⟩ := iK (P := E.P) (w := w) (cap := 0) k0 k1 k2 ho3 hl hh (.some _ _ hmv) (by simp) (by simp) (Nat.le_refl _)
      obtain rfl : q = 0 := by omega
      obtain rfl : hq = 0 := by omega
      obtain rfl : lq = 0 := by omega
      simp only [Instr.sliceAt, Instr.slice, Sem.run_bind, hu, Result.andThen_ok, b1, hz, Sem.run_pure]
      exact .same hr b4 .aN
    ·obtain ⟨q, hq, lq, s1, s2, s3, k0, k1, k2, k3, ho3⟩ := J8 h4 ho
     obtain ⟨rfl, rfl⟩ := aD k3
     cases hx with
     | emp ad =>
      obtain ⟨b1, b2, b3, b5, b4⟩ := iK (P := E.P) (w := w) (cap := 0) k0 k1 k2 ho3 hl hh (.some _ _ hmv) (by simp) (by simp) (Nat.le_refl _)
      obtain rfl : q = 0 := by omega
      obtain rfl : hq = 0 := by omega
      obtain rfl : lq = 0 := by omega
      simp only [Instr.sliceAt, Instr.slice, Sem.run_bind, hu, Result.andThen_ok, b1, hz, Sem.run_pure]
      exact .same hr b4 (.emp _)
    ·rename_i g sz off len
     obtain ⟨hsz, h5⟩ := dM h4
     obtain ⟨q, hq, lq, s1, s2, s3, k0, k1, k2, k3, ho3⟩ := J8 h5 ho
     obtain ⟨rfl, rfl⟩ := aD k3
     cases hx with
     | isl _ _ _ _ b o c g' hg hrr hlc =>
      obtain ⟨b1, b2, b3, b5, b4⟩ := iK (P := E.P) (w := w) (cap := c) k0 k1 k2 ho3 hl hh (.some _ _ hmv) (by simp) (by simp) (Nat.zero_le _)
      obtain rfl : q = 0 := by omega
      obtain rfl : hq = 0 := by omega
      obtain rfl : lq = 0 := by omega
      simp only [Instr.sliceAt, Instr.slice, Sem.run_bind, hu, Result.andThen_ok, b1, hz, Sem.run_pure]
      exact .same hr b4 (.emp _)
     | uA _ _ _ c ad =>
      obtain ⟨b1, b2, b3, b5, b4⟩ := iK (P := E.P) (w := w) (cap := c) k0 k1 k2 ho3 hl hh (.some _ _ hmv) (by simp) (by simp) (Nat.zero_le _)
      obtain rfl : q = 0 := by omega
      obtain rfl : hq = 0 := by omega
      obtain rfl : lq = 0 := by omega
      simp only [Instr.sliceAt, Instr.slice, Sem.run_bind, hu, Result.andThen_ok, b1, hz, Sem.run_pure]
      exact .same hr b4 (.emp _)
    ·rename_i id off len cap sz
     obtain ⟨hsz, h5⟩ := dM h4
     obtain ⟨q, hq, lq, s1, s2, s3, k0, k1, k2, k3, ho3⟩ := J8 h5 ho
     obtain ⟨rfl, rfl⟩ := aD k3
     cases hx with
     | slx _ _ _ c _ r hρ hlc =>
      have hcc : (some c).getD len ≤ c := Nat.le_refl _
      obtain ⟨b1, b2, b3, b5, b4⟩ := iK (P := E.P) (w := w) (cap := c) k0 k1 k2 ho3 hl hh (.some _ _ hmv) (by simp) (by simp) hcc
      simp only [Instr.sliceAt, Instr.slice, Sem.run_bind, hu, Result.andThen_ok, b1, hz, Sem.run_pure, Option.map_some, dU]
      refine .same hr b4 ?_
      by_cases e0 : q = lq
      ·subst e0
       rw [if_pos rfl]
       have e1 : hq - q = 0 := by omega
       have e2 : q - q = 0 := by omega
       rw [e1, e2]
       exact .sl0 _ _ _ _ _ (fun k hk => by simpa using hk.symm) (fun hk => by cases hk)
      ·rw [if_neg e0]
       exact .slx _ _ _ _ _ r hρ (by omega)
     | slw _ _ _ c _ r hρ hlc hs hc =>
      have hcc : (none : Option Nat).getD len ≤ c := hlc
      obtain ⟨b1, b2, b3, b5, b4⟩ := iK (P := E.P) (w := w) (cap := c) k0 k1 k2 ho3 hl hh (.some _ _ hmv) (by simp) (by simp) hcc
      simp only [Instr.sliceAt, Instr.slice, Sem.run_bind, hu, Result.andThen_ok, b1, hz, Sem.run_pure, Option.map_some, dU]
      refine .same hr b4 ?_
      by_cases e0 : q = lq
      ·subst e0
       rw [if_pos rfl]
       have e1 : hq - q = 0 := by omega
       have e2 : q - q = 0 := by omega
       rw [e1, e2]
       exact .sl0 _ _ _ _ _ (fun k hk => by simpa using hk.symm) (fun hk => by cases hk)
      ·rw [if_neg e0]
       exact .slx _ _ _ _ _ r hρ (by omega)
     | sl0 _ _ _ _ ad hc hn =>
      have hc0 : cap.getD 0 ≤ 0 := by
       cases cap with
       | none => exact Nat.le_refl _
       | some k => have := hc k rfl; subst this; exact Nat.le_refl _
      obtain ⟨b1, b2, b3, b5, b4⟩ := iK (P := E.P) (w := w) (cap := 0) k0 k1 k2 ho3 hl hh (.some _ _ hmv) (by simp) (by simp) hc0
      obtain rfl : q = 0 := by omega
      obtain rfl : hq = 0 := by omega
      obtain rfl : lq = 0 := by omega
      simp only [Instr.sliceAt, Instr.slice, Sem.run_bind, hu, Result.andThen_ok, b1, hz, Sem.run_pure]
      exact .same hr b4 (.sl0 _ _ _ _ _ (fun k hk => by simpa using hk.symm) (fun hk => by cases hk))
    ·exact (aC h4).elim
 | array len e =>
  rw [hd] at h2 hu
  obtain ⟨n, s2, h3, h4⟩ := M.aG h2
  obtain ⟨⟨j, hj, rfl⟩, rfl⟩ := fR h3
  have hz := hj.cZ (w := w)
  cases hm with
  | some _ _ _ => exact (aC h4).elim
  | none =>
   obtain ⟨hq, lq, s2, s3, k1, k2, k3, ho3⟩ := yY h4 ho
   obtain ⟨b1, b2, b3, b4⟩ := fE (P := E.P) (w := w) (isSl := false) (cap := len) k1 k2 ho3 hl hh (Nat.le_refl _) (Nat.le_refl _)
   split at k3
   ·rename_i id off
    obtain ⟨rfl, rfl⟩ := aD k3
    cases hx with
    | ptr _ _ r hρ =>
     simp only [Instr.sliceAt, Sem.run_bind, hu, Result.andThen_ok, Instr.sureAddr, b1, hz, Sem.run_pure, dU]
     refine .same hr b4 ?_
     by_cases e0 : len = lq
     ·subst e0
      rw [if_pos rfl]
      have e1 : hq - len = 0 := by omega
      have e2 : len - len = 0 := by omega
      rw [e1, e2]
      exact .sl0 _ _ _ _ _ (fun k hk => by simpa using hk.symm) (fun hk => by cases hk)
     ·rw [if_neg e0]
      exact .slx _ _ _ _ _ r hρ (by omega)
   ·rename_i g mm off
    obtain ⟨_, s4, h5, h6, ho4, _, _⟩ := M.aL k3 ho
    obtain ⟨h7, h8⟩ := dQ h5 ho4
    obtain ⟨rfl, rfl⟩ := aD h6
    have h7' := Nat.le_of_ble_eq_true h7
    cases hx with
    | ip _ _ _ b o g' hg hrr =>
     simp only [Instr.sliceAt, Sem.run_bind, hu, Result.andThen_ok, Instr.sureAddr, b1, hz, Sem.run_pure, dU]
     refine .same hr (b4.trans h8) ?_
     by_cases e0 : len = lq
     ·subst e0
      have e1 : hq - len = 0 := by omega
      rw [e1, if_pos rfl]
      exact .uA _ _ _ _ _
     ·rw [if_neg e0]
      have hle : off + lq * j.size + (hq - lq) * j.size ≤ off + len * j.size := by
       rw [Nat.add_assoc, ← Nat.add_mul]
       exact Nat.add_le_add_left (Nat.mul_le_mul_right _ (by omega)) _
      have := R.isl (ρ := ρ) (m := m) g j.size (off + lq * j.size) (hq - lq) b o (len - lq) g' (fun k hk => hg k (by omega)) (fun k hk => hrr k (by omega)) (by omega)
      rw [← Nat.add_assoc] at this
      exact this
   ·exact (aC k3).elim
 | _ => rw [hd] at h2; exact (aC h2).elim
end
end Go.Am
set_option linter.unusedSimpArgs false
set_option linter.unusedVariables false
namespace Go.Am
open Go
variable {E : Env}
section
variable {ρ : Ren} {m : Mem} {s s' : St} {w : World} {v : a9}
theorem nO {P : Program} {a : a9} {n : Nat} (h : (lenOf a).run s = .ok n s') {x : Value} (hx : R ρ m a x) : s' = s ∧ (Builtin.lenOf x).run P w = .ok n w := by
 unfold lenOf at h
 split at h
 ·obtain ⟨rfl, rfl⟩ := aD h; cases hx; exact ⟨rfl, rfl⟩
 ·obtain ⟨rfl, rfl⟩ := aD h; cases hx; exact ⟨rfl, rfl⟩
 ·obtain ⟨rfl, rfl⟩ := aD h; cases hx <;> exact ⟨rfl, rfl⟩
 ·obtain ⟨rfl, rfl⟩ := aD h; cases hx <;> exact ⟨rfl, rfl⟩
 ·obtain ⟨rfl, rfl⟩ := aD h; cases hx; exact ⟨rfl, rfl⟩
 ·exact (aC h).elim
theorem gJ : ∀ l : List UInt8, (fF l).length = l.length
 | [] => rfl
 | b :: l => by simp [fF, gJ l]
theorem mX : ∀ (l : List UInt8) (i : Nat), (fF l)[i]? = (l[i]?).map fun b => a9.int .u8 (b.toNat : Int)
 | [], i => by simp [fF]
 | b :: l, 0 => by simp [fF]
 | b :: l, i + 1 => by simp [fF, mX l i]
theorem zU (l : List UInt8) : RL ρ m (fF l) (l.toArray.map fun b => .int .u8 b.toNat) := by
 refine ⟨by simp [gJ], fun i a b ha hb => ?_⟩
 rw [mX] at ha
 simp only [Array.getElem?_map, List.getElem?_toArray] at hb
 cases hl : l[i]? with
 | none => rw [hl] at ha; cases ha
 | some c =>
  rw [hl] at ha hb
  simp only [Option.map_some, Option.some.injEq] at ha hb
  subst ha; subst hb
  exact .int _ _
theorem RL.nil : RL ρ m [] #[] := ⟨rfl, fun i _ _ h => by simp at h⟩
theorem RL.append {a b : List a9} {x y : Array Value} (h : RL ρ m a x) (h' : RL ρ m b y) : RL ρ m (a ++ b) (x ++ y) := by
 refine ⟨by simp [h.len, h'.len], fun i c d hc hd => ?_⟩
 by_cases hi : i < a.length
 ·rw [List.getElem?_append_left hi] at hc
  rw [Array.getElem?_append_left (by rw [← h.len]; exact hi)] at hd
  exact h.at_ i c d hc hd
 ·rw [List.getElem?_append_right (by omega)] at hc
  rw [Array.getElem?_append_right (by rw [← h.len]; omega), ← h.len] at hd
  exact h'.at_ _ c d hc hd
theorem eM {P : Program} {a : a9} {sz n : Nat} {cs : List a9} (h : (cM sz n a).run s = .ok cs s') (ho : bT s') (hr : Rel P ρ m s.heap.get w) {x : Value} (hx : R ρ m a x) :
  ∃ xs, (Builtin.firstCells sz n x).run P w = .ok xs w ∧ RL ρ m cs xs ∧ cs.length = n * sz ∧ fL s s' := by
 unfold cM at h
 split at h
 ·obtain ⟨_, s1, h1, h2, ho1, _, _⟩ := M.aL h ho
  obtain ⟨hb, e⟩ := dQ h1 ho1
  obtain ⟨rfl, rfl⟩ := aD h2
  obtain rfl := Nat.eq_of_beq_eq_true hb
  cases hx
  exact ⟨#[], rfl, .nil, by simp, e⟩
 ·obtain ⟨_, s1, h1, h2, ho1, _, _⟩ := M.aL h ho
  obtain ⟨hb, e⟩ := dQ h1 ho1
  obtain ⟨rfl, rfl⟩ := aD h2
  obtain rfl := Nat.eq_of_beq_eq_true hb
  cases hx with
  | emp ad =>
   refine ⟨#[], ?_, .nil, by simp, e⟩
   cases ad with
   | none => rfl
   | some ad => simp only [Builtin.firstCells, Nat.zero_mul]; rfl
 ·rename_i id off len cap z
  obtain ⟨hz, h1⟩ := dM h
  subst hz
  obtain ⟨b, s1, h2, h3, ho1, _, _⟩ := M.aL h1 ho
  obtain ⟨hg, e1⟩ := dE h2
  obtain ⟨c, t, rfl, h4⟩ := iW h3
  obtain ⟨_, s2, h5, h6, ho2, _, _⟩ := M.aL h4 ho
  obtain ⟨hb1, e2⟩ := dQ h5 ho2
  obtain ⟨_, s3, h7, h8, ho3, _, _⟩ := M.aL h6 ho
  obtain ⟨hb2, e3⟩ := dQ h7 ho3
  obtain ⟨rfl, rfl⟩ := aD h8
  have hle := Nat.le_of_ble_eq_true hb2
  have hnl := Nat.le_of_ble_eq_true hb1
  have hread : ∀ r, ρ id = some r → ∃ xs, (loadCells ⟨r.b, off, none⟩ (n * z)).run P w = .ok xs w ∧ RL ρ m (c.sub off (n * z)) xs := by
   intro r hρ
   have hrd : (cC (.ptr id off) (n * z)).run s = .ok (c.sub off (n * z)) { s with rds := id :: s.rds } := by
    have : (off + n * z).ble c.size = true := hb2
    simp only [cC, M.bind, mD, eQ, CC, hg, eE, ob, obF, M.pure, this]
   have ho' : bT { s with rds := id :: s.rds } := by
    have := (M.aG h1)
    obtain ⟨_, _, _, d⟩ := ((eQ id).bind (eE fun c _ => (ob (n.ble len)).bind fun _ => (ob ((off + n * z).ble c.size)).bind fun _ => M.pure (c.sub off (n * z)))).loc _ _ _ h1
    have := ho.of d.obs
    simpa [bT] using this
   obtain ⟨ad, xs, e, k1, k2, k3, k4, k5⟩ := iC hrd ho' hr (.ptr id off r hρ)
   injection e with e
   injection e with e
   subst e
   exact ⟨xs.toArray, lQ k1 k2, k3⟩
  have hlen := bG.gQ hle
  cases hx with
  | slx _ _ _ cc _ r hρ hl =>
   obtain ⟨xs, k1, k2⟩ := hread r hρ
   exact ⟨xs, by simp only [Builtin.firstCells, k1], k2, hlen, (e1.trans e2).trans e3⟩
  | slw _ _ _ cc _ r hρ hl hs hc =>
   obtain ⟨xs, k1, k2⟩ := hread r hρ
   exact ⟨xs, by simp only [Builtin.firstCells, k1], k2, hlen, (e1.trans e2).trans e3⟩
  | sl0 _ _ _ _ ad hc hn =>
   have hn0 : n = 0 := by omega
   subst hn0
   refine ⟨#[], ?_, ?_, hlen, (e1.trans e2).trans e3⟩
   ·simp only [Builtin.firstCells, Nat.zero_mul]; rfl
   ·rw [Nat.zero_mul] at hlen ⊢
    rw [List.eq_nil_of_length_eq_zero hlen]; exact .nil
 ·rename_i g z off len
  obtain ⟨hz, h1⟩ := dM h
  subst hz
  obtain ⟨_, s1, h2, h3, ho1, _, _⟩ := M.aL h1 ho
  obtain ⟨hb, e⟩ := dQ h2 ho1
  obtain ⟨rfl, rfl⟩ := aD h3
  have hnl := Nat.le_of_ble_eq_true hb
  cases hx with
  | isl _ _ _ _ b o c g' hg hrr hl =>
   have hmul : n * z ≤ len * z := Nat.mul_le_mul_right _ hnl
   have hrd : (cC (.ip g (off + len * z) off) (n * z)).run s = .ok (cellsOf g off (n * z)) s := by
    have : (off + n * z).ble (off + len * z) = true := by simpa using hmul
    simp only [cC, M.bind, mD, ob, obF, M.pure, this]
   have ho' : bT s := by
    obtain ⟨_, _, _, d⟩ := ((ob (n.ble len)).bind fun _ => M.pure (cellsOf g off (n * z))).loc _ _ _ h1
    exact ho.of d.obs
   obtain ⟨ad, xs, e', k1, k2, k3, k4, k5⟩ := iC hrd ho' hr (.ip g (off + len * z) off b o g' hg hrr)
   injection e' with e'
   injection e' with e'
   subst e'
   exact ⟨xs.toArray, by simp only [Builtin.firstCells, lQ k1 k2], k3, k4, e⟩
  | uA _ _ _ c ad =>
   have hn0 : n = 0 := by omega
   subst hn0
   refine ⟨#[], ?_, ?_, by simp [gI], e⟩
   ·simp only [Builtin.firstCells, Nat.zero_mul]; rfl
   ·rw [Nat.zero_mul]; exact .nil
 ·rename_i l
  obtain ⟨hz, h1⟩ := dM h
  subst hz
  obtain ⟨_, s1, h2, h3, ho1, _, _⟩ := M.aL h1 ho
  obtain ⟨hb, e⟩ := dQ h2 ho1
  obtain ⟨rfl, rfl⟩ := aD h3
  have hnl := Nat.le_of_ble_eq_true hb
  obtain rfl := hx.gR
  refine ⟨(l.take n).toArray.map fun b => .int .u8 b.toNat, ?_, zU _, by simp [gJ]; omega, e⟩
  simp only [Builtin.firstCells, jM, List.drop_zero, Sem.run_pure]
 ·exact (aC h).elim
theorem AK (need : Nat) : ∀ (k c : Nat), 256 ≤ c → c ≤ 2 * need → Builtin.growBy need k c ≤ 2 * need
 | 0, c, _, h => h
 | k + 1, c, h1, h2 => by
  simp only [Builtin.growBy]
  split
  ·exact h2
  ·exact AK need k _ (by omega) (by omega)
theorem pA {need cap : Nat} (h : cap < need) : Builtin.nextslicecap need cap ≤ 2 * need := by
 unfold Builtin.nextslicecap
 split
 ·omega
 ·split
  ·omega
  ·exact AK need 4 cap (by omega) (by omega)
theorem rJ {e : TypeId} {i : TI} {need : Nat} {cs : List a9} (h : (iG e i need cs).run s = .ok v s') (ho : bT s') (hr : Rel E.P ρ m s.heap.get w) (hf : eC ρ s s') (hi : TOk E.P e i) {xs : Array Value} (hx : RL ρ m cs xs)
  (hl : cs.length = need * i.size) (newCap : Nat) (hcap : need ≤ newCap) (zx : Array Value) (hz : zx.size = i.size) :
  2 * need * i.bytes ≤ 281474976710656 ∧ need ≤ 281474976710656 ∧
  ∃ ρ', dV E.P ρ m s w ρ' m s' (w.alloc (.cells (xs ++ Builtin.zeroCells zx (newCap - need)) e)) ∧ R ρ' m v (.slice (some ⟨w.heap.size, 0, none⟩) need newCap) := by
 obtain ⟨_, s1, h1, h2, ho1, _, _⟩ := M.aL h ho
 obtain ⟨hb, e1⟩ := dQ h1 ho1
 obtain ⟨id, s2, h3, h4⟩ := M.aG h2
 obtain ⟨rfl, rfl⟩ := aD h4
 simp only [Bool.and_eq_true] at hb
 have hb1 := Nat.le_of_ble_eq_true hb.1
 have hb2 := Nat.le_of_ble_eq_true hb.2
 have hr1 : Rel E.P ρ m s1.heap.get w := hr.congr (fun id => by rw [e1.heap])
 have hf1 : eC ρ s1 s' := fun id hid => hf id ⟨by have := hid.1; rw [e1.next] at this; exact this, hid.2⟩
 have hzs : (Builtin.zeroCells zx (newCap - need)).size = (newCap - need) * i.size := by simp [Builtin.zeroCells, hz]
 obtain ⟨eid, hp⟩ := sT h3 hr1 hf1 hi (arr := xs ++ Builtin.zeroCells zx (newCap - need)) (by simp [bG.size, hx.len]) (fun j y hj hy => by
  simp only [bG.size] at hj
  rw [Array.getElem?_append_left (by rw [← hx.len]; exact hj)] at hy
  simp only [bG.at, gB, List.getElem?_eq_getElem hj, Option.getD_some]
  exact hx.at_ j _ y (List.getElem?_eq_getElem hj) hy)
 have hsize : (xs ++ Builtin.zeroCells zx (newCap - need)).size = newCap * i.size := by
  rw [Array.size_append, hzs, ← hx.len, hl, ← Nat.add_mul]
  congr 1; omega
 refine ⟨hb1, hb2, _, (dV.bN hr e1).trans hp, ?_⟩
 exact .slw id 0 need newCap i.size ⟨w.heap.size, (xs ++ Builtin.zeroCells zx (newCap - need)).size, i.size⟩ (by unfold Ren.put; rw [if_pos rfl]) hcap rfl (by show 0 + newCap * i.size = (xs ++ Builtin.zeroCells zx (newCap - need)).size; rw [hsize]; omega)
theorem eC.bN {ρ : Ren} {s s1 s2 : St} (h : eC ρ s s2) (e : fL s s1) : eC ρ s1 s2 := fun id hid => h id ⟨by have := hid.1; rw [e.next] at this; exact this, hid.2⟩
theorem Rel.bN {P : Program} {ρ : Ren} {m : Mem} {s s1 : St} {w : World} (h : Rel P ρ m s.heap.get w) (e : fL s s1) : Rel P ρ m s1.heap.get w := h.congr (fun id => by rw [e.heap])
theorem dV.after {P : Program} {ρ ρ' : Ren} {m m' : Mem} {s s1 s2 : St} {w w' : World} (h : dV P ρ m s1 w ρ' m' s2 w') (e : fL s s1) : dV P ρ m s w ρ' m' s2 w' :=
 ⟨h.ren, fun id hid => (h.new id hid).imp_right fun x => ⟨by have := x.1; rw [e.next] at this; exact this, x.2⟩, h.mem, h.rel, h.fr, by have := h.next; rw [e.next] at this; exact this⟩
theorem dV.drew {P : Program} {ρ ρ' : Ren} {m m' : Mem} {s s2 : St} {w w' : World} (h : dV P ρ m s { w with drawn := w.drawn + 1 } ρ' m' s2 w') : dV P ρ m s w ρ' m' s2 w' :=
 ⟨h.ren, h.new, h.mem, h.rel, (Fr.drew w).trans h.fr, h.next⟩
theorem wI {P : Program} {w : World} {ts : Array TypeId} {ty t t2 : TypeId} {rest : List TypeId} (hts : ts.toList = t :: t2 :: rest) {e : TypeId} {i : TI} (hu : (underlying t).run P w = .ok (.slice e) w) {d2 : TypeDesc}
  (hu2 : (underlying t2).run P w = .ok d2 w) (hd2 : sV d2 = false) (hi : TOk P e i) {cX : Option Addr} {sLen sCap n : Nat} {x : Value} (hn : (Builtin.lenOf x).run P w = .ok n w) (hroom : ¬ sLen + n ≤ sCap)
  (hb : 2 * (sLen + n) * i.bytes ≤ 281474976710656) (hneed : sLen + n ≤ 281474976710656) {ys xs : Array Value} (hy : (Builtin.firstCells i.size sLen (.slice cX sLen sCap)).run P { w with drawn := w.drawn + 1 } = .ok ys { w with drawn := w.drawn + 1 })
  (hx : (Builtin.firstCells i.size n x).run P { w with drawn := w.drawn + 1 } = .ok xs { w with drawn := w.drawn + 1 }) :
  ∃ (newCap : Nat) (z : Value), sLen + n ≤ newCap ∧ ofValue z = i.zero ∧ (Builtin.append_ ts ty #[.slice cX sLen sCap, x]).run P w =
   .ok (.slice (some ⟨w.heap.size, 0, none⟩) (sLen + n) newCap) (({ w with drawn := w.drawn + 1 } : World).alloc (.cells (ys ++ xs ++ Builtin.zeroCells z.cells (newCap - (sLen + n))) e)) := by
 obtain ⟨j, hj, hjs, hjb, z, hjz, hzi⟩ := hi.DJ (w := w)
 have h0 : ts[0]? = some t := by rw [← Array.getElem?_toList, hts]; rfl
 have h1 : ts[1]? = some t2 := by rw [← Array.getElem?_toList, hts]; rfl
 have hmax : ¬ (((sLen + n : Nat) : Int) > IntKind.i64.max) := by
  have : IntKind.i64.max = 9223372036854775807 := rfl
  rw [this]; omega
 have hns : ¬ (Builtin.nextslicecap (sLen + n) sCap * j.bytes > 2 ^ 48) := by
  have h2 := pA (show sCap < sLen + n by omega)
  have h3 : Builtin.nextslicecap (sLen + n) sCap * j.bytes ≤ 2 * (sLen + n) * j.bytes := Nat.mul_le_mul_right _ h2
  rw [hjb] at h3 ⊢
  omega
 refine ⟨(Question.appendCap (sLen + n) sCap e).cut (w.tape w.drawn (.appendCap (sLen + n) sCap e)), z, ?_, hzi, ?_⟩
 ·simp only [Question.cut]; omega
 ·have hz1 : ∀ w' : World, (zeroValue e).run P w' = .ok z w' := by
   intro w'
   obtain ⟨j', q, hj', _, _, hq, hv⟩ := hi.GN
   have : (typeInfo e).run P w = .ok j' w := by simp [typeInfo, hj']
   rw [hj] at this
   injection this with e1 _
   subst e1
   simp [zeroValue, typeInfo, hj', hjz]
  have hj1 : ∀ w' : World, (typeInfo e).run P w' = .ok j w' := by
   intro w'
   obtain ⟨j', q, hj', _, _, hq, hv⟩ := hi.GN
   have : (typeInfo e).run P w = .ok j' w := by simp [typeInfo, hj']
   rw [hj] at this
   injection this with e1 _
   subst e1
   simp [typeInfo, hj']
  have hf : (Question.appendCap (sLen + n) sCap e).forced = false := rfl
  cases d2 with
  | int k => cases hd2
  | _ => simp only [Builtin.append_, h0, h1, List.getElem?_toArray, List.getElem?_cons_zero, List.getElem?_cons_succ, Sem.run_bind, hu, Result.andThen_ok, hi.cZ, hu2, Sem.run_pure, Bool.false_eq_true, if_false, hn, hroom, hj1, hmax, false_and, hns, run_choose, hf, run_askRoom, hy, Bool.not_false, if_true, hx, hz1, lP]
end
end Go.Am
set_option linter.unusedSimpArgs false
set_option linter.unusedVariables false
namespace Go.Am
open Go
variable {E : Env}
section
variable {ρ : Ren} {m : Mem} {s s' : St} {w : World} {v : a9}
theorem wK {P : Program} {a : a9} (h : (lenOf a).run s = .ok 0 s') {x : Value} (hx : R ρ m a x) (sz : Nat) : (Builtin.firstCells sz 0 x).run P w = .ok #[] w := by
 have ld : ∀ ad : Addr, (loadCells ad (0 * sz)).run P w = .ok #[] w := fun ad => by rw [Nat.zero_mul]; rfl
 have sl : ∀ (o : Option Addr) (l c : Nat), (Builtin.firstCells sz 0 (.slice o l c)).run P w = .ok #[] w := fun o l c => by
  cases o with
  | none => rfl
  | some ad => simp only [Builtin.firstCells, ld]
 unfold lenOf at h
 split at h
 ·cases hx; exact sl _ _ _
 ·cases hx; exact sl _ _ _
 ·cases hx <;> exact sl _ _ _
 ·cases hx <;> exact sl _ _ _
 ·cases hx
  simp [Builtin.firstCells, jM]
 ·exact (aC h).elim
theorem jL {P : Program} {w w' : World} {ts : Array TypeId} {ty t t2 : TypeId} {rest : List TypeId} (hts : ts.toList = t :: t2 :: rest) {e : TypeId} {i : TI} (hu : (underlying t).run P w = .ok (.slice e) w) {d2 : TypeDesc}
  (hu2 : (underlying t2).run P w = .ok d2 w) (hd2 : sV d2 = false) (hi : TOk P e i) {cX : Option Addr} {sLen sCap n : Nat} {x : Value} (hn : (Builtin.lenOf x).run P w = .ok n w) (hroom : sLen + n ≤ sCap)
  {xs : Array Value} (hx : (Builtin.firstCells i.size n x).run P w = .ok xs w) (hst : ∀ a, cX = some a → (storeCells (a.add (sLen * i.size)) xs.toList).run P w = .ok () w') (hno : cX = none → w' = w) :
  (Builtin.append_ ts ty #[.slice cX sLen sCap, x]).run P w = .ok (.slice cX (sLen + n) sCap) w' := by
 have h0 : ts[0]? = some t := by rw [← Array.getElem?_toList, hts]; rfl
 have h1 : ts[1]? = some t2 := by rw [← Array.getElem?_toList, hts]; rfl
 cases cX with
 | none =>
  obtain rfl := hno rfl
  cases d2 with
  | int k => cases hd2
  | _ => simp only [Builtin.append_, h0, h1, List.getElem?_toArray, List.getElem?_cons_zero, List.getElem?_cons_succ, Sem.run_bind, hu, Result.andThen_ok, hi.cZ, hu2, Sem.run_pure, Bool.false_eq_true, if_false, hn, hroom, Bool.not_false, if_true, hx]
 | some a =>
  have := hst a rfl
  cases d2 with
  | int k => cases hd2
  | _ => simp only [Builtin.append_, h0, h1, List.getElem?_toArray, List.getElem?_cons_zero, List.getElem?_cons_succ, Sem.run_bind, hu, Result.andThen_ok, hi.cZ, hu2, Sem.run_pure, Bool.false_eq_true, if_false, hn, hroom, Bool.not_false, if_true, hx, this]
theorem Rel.ND {P : Program} {ρ : Ren} {m : Mem} {h h' : Nat → Option Blk} {w : World} (hr : Rel P ρ m h w) {id id' : Nat} {b : Blk} {r : RB} (hg : h id = some b) (hρ : ρ id = some r) (hn : ρ id' = none)
  (hh : ∀ j, h' j = if j = id' then some b else if j = id then none else h j) : Rel P (ρ.put id' r) m h' w where
 dL := fun j c hj => by
  rw [hh j] at hj
  by_cases e : j = id'
  ·subst e
   simp only [if_true, Option.some.injEq] at hj
   subst hj
   obtain ⟨rb, o, q1, q2, q3, q4⟩ := hr.dL id b hg
   rw [hρ] at q1
   injection q1 with q1
   subst q1
   exact ⟨r, o, by simp [Ren.put], q2, q3.mono (gP.put hn) (.refl m), q4⟩
  ·by_cases e2 : j = id
   ·simp [e, e2] at hj
    obtain ⟨h1, h2⟩ := hj
    exact absurd e2 (fun _ => e (e2.trans h1))
   ·simp only [e, e2, if_false] at hj
    obtain ⟨rb, o, q1, q2, q3, q4⟩ := hr.dL j c hj
    exact ⟨rb, o, gP.put hn _ _ q1, q2, q3.mono (gP.put hn) (.refl m), q4⟩
 inj := fun i j b1 b2 r1 r2 h1 h2 h3 h4 h5 => by
  rw [hh] at h1 h2
  unfold Ren.put at h3 h4
  by_cases e1 : i = id'
  ·by_cases e2 : j = id'
   ·rw [e1, e2]
   ·by_cases e3 : j = id
    ·simp only [e2, e3, if_false, if_true] at h2
     split at h2
     ·exact absurd (e3.trans (by assumption)) e2
     ·cases h2
    ·simp only [e1, e2, e3, if_false, if_true, Option.some.injEq] at h2 h3 h4
     subst h3
     exact absurd (hr.inj id j b b2 r r2 hg h2 hρ h4 h5).symm e3
  ·by_cases e3 : i = id
   ·simp only [e1, e3, if_false, if_true] at h1
    split at h1
    ·exact absurd (e3.trans (by assumption)) e1
    ·cases h1
   ·by_cases e2 : j = id'
    ·simp only [e1, e2, e3, if_false, if_true, Option.some.injEq] at h1 h3 h4
     subst h4
     exact absurd (hr.inj i id b1 b r1 r h1 hg h3 hρ h5) e3
    ·by_cases e4 : j = id
     ·simp only [e2, e4, if_false, if_true] at h2
      split at h2
      ·exact absurd (e4.trans (by assumption)) e2
      ·cases h2
     ·simp only [e1, e2, e3, e4, if_false] at h1 h2 h3 h4
      exact hr.inj i j b1 b2 r1 r2 h1 h2 h3 h4 h5
 mem := hr.mem
theorem nT {ts : Array TypeId} {ty t t2 : TypeId} {rest : List TypeId} (hts : ts.toList = t :: t2 :: rest) {e : TypeId} {i : TI} (hu : (underlying t).run E.P w = .ok (.slice e) w) {d2 : TypeDesc}
  (hu2 : (underlying t2).run E.P w = .ok d2 w) (hd2 : sV d2 = false) (hi : TOk E.P e i) {cX : Option Addr} {sLen sCap n : Nat} {x : Value} (hn : (Builtin.lenOf x).run E.P w = .ok n w) (hroom : ¬ sLen + n ≤ sCap)
  {ys xs : List a9} {ya xa : Array Value} (hy : (Builtin.firstCells i.size sLen (.slice cX sLen sCap)).run E.P { w with drawn := w.drawn + 1 } = .ok ya { w with drawn := w.drawn + 1 })
  (hx : (Builtin.firstCells i.size n x).run E.P { w with drawn := w.drawn + 1 } = .ok xa { w with drawn := w.drawn + 1 }) (ly : RL ρ m ys ya) (lx : RL ρ m xs xa) (hly : ys.length = sLen * i.size) (hlx : xs.length = n * i.size)
  {need : Nat} (hne : need = sLen + n) (h : (iG e i need (ys ++ xs)).run s = .ok v s') (ho : bT s') (hr : Rel E.P ρ m s.heap.get w) (hf : eC ρ s s') :
  Out E.P ρ m s w s' v ((Builtin.append_ ts ty #[.slice cX sLen sCap, x]).run E.P w) := by
 subst hne
 have hlen : (ys ++ xs).length = (sLen + n) * i.size := by rw [List.length_append, hly, hlx, Nat.add_mul]
 obtain ⟨b1, b2, _⟩ := rJ h ho hr.drew hf hi (ly.append lx) hlen (sLen + n) (Nat.le_refl _) (Array.replicate i.size Go.undef) (by simp)
 obtain ⟨newCap, z, k1, k2, k3⟩ := wI (ty := ty) hts hu hu2 hd2 hi hn hroom b1 b2 hy hx
 have hz : z.cells.size = i.size := by rw [← (hi.uT (ρ := ρ) (m := m) k2).len, hi.D3]
 obtain ⟨_, _, ρ', g1, g2⟩ := rJ h ho hr.drew hf hi (ly.append lx) hlen newCap k1 z.cells hz
 exact ⟨_, _, ρ', k3, g1.drew, g2⟩
theorem zB {zs : List a9} {zx : Array Value} (hz : RL ρ m zs zx) (n : Nat) : RL ρ m (eY zs n) (Builtin.zeroCells zx n) := by
 have := tM hz n
 exact this
theorem FD {ts : Array TypeId} {ty t t2 : TypeId} (hts : ts.toList = [t, t2]) {i2 : TI} (hi2 : TOk E.P t2 i2) (hd2 : sV i2.desc = true) {a b : a9} (h : (fJ (xD E t a) b).run s = .ok v s') (ho : bT s')
  (hr : Rel E.P ρ m s.heap.get w) (hf : eC ρ s s') {x y : Value} (hx : R ρ m a x) (hy : R ρ m b y) : Out E.P ρ m s w s' v ((Builtin.append_ ts ty #[x, y]).run E.P w) := by
 obtain ⟨kn, hkn⟩ : ∃ kn, i2.desc = .int kn := by
  cases hd : i2.desc with
  | int k => exact ⟨k, rfl⟩
  | _ => rw [hd] at hd2; cases hd2
 obtain rfl : ts = #[t, t2] := by rw [← Array.toArray_toList (xs := ts), hts]
 unfold fJ at h
 split at h
 ·rename_i kq kk
  obtain rfl := hy.cH
  unfold xD at h
  obtain ⟨d, s1, h1, h2⟩ := M.aG h
  obtain ⟨⟨i0, hi0, rfl⟩, rfl⟩ := eI h1
  cases hd : i0.desc with
  | slice e =>
   rw [hd] at h2
   obtain ⟨i, s2, h3, h4⟩ := M.aG h2
   obtain ⟨hi, rfl⟩ := lI h3
   cases a with
   | sl id off len cap sz =>
    cases cap with
    | some mm =>
     obtain ⟨hsz, h5⟩ := dM h4
     obtain ⟨_, s3, h6, h7, ho3, _, hnx3⟩ := M.aL h5 ho
     obtain ⟨hb, e3⟩ := dQ h6 ho3
     obtain ⟨g0, g1, g2, g3⟩ := of_decide_eq_true hb
     obtain ⟨ys, s4, h8, h9, ho4, _, hnx4⟩ := M.aL h7 ho
     have hr3 := hr.bN e3
     obtain ⟨ya, q1, q2, q3, e4⟩ := eM h8 ho4 hr3.drew hx
     have e34 := e3.trans e4
     have hr4 := hr.bN e34
     have hf4 := hf.bN e34
     obtain ⟨j, z, hj, hjs, hjb, hjz, hz⟩ := hi.GN
     have hzc := hi.uT (ρ := ρ) (m := m) hz
     have hzs : z.cells.size = i.size := by rw [← hzc.len, hi.D3]
     have hxl : RL ρ m (ys ++ eY i.zero.cells kk.toNat) (ya ++ Builtin.zeroCells z.cells kk.toNat) := q2.append (zB hzc _)
     have hlen : (ys ++ eY i.zero.cells kk.toNat).length = (len + kk.toNat) * i.size := by
      rw [List.length_append, q3, mM, hi.D3, Nat.add_mul]
     obtain ⟨cX, hxe⟩ : ∃ cX : Option Addr, x = .slice cX len mm := by
      cases hx with
      | slx _ _ _ c _ r hρ hl => exact ⟨_, rfl⟩
      | sl0 _ _ _ _ ad hc hn =>
       have := hc mm rfl
       subst this
       exact ⟨_, rfl⟩
     subst hxe
     obtain ⟨b1, b2, _⟩ := rJ h9 ho hr4.drew hf4 hi hxl hlen (len + kk.toNat) (Nat.le_refl _) (Array.replicate i.size Go.undef) (by simp)
     have hk : kk = ((kk.toNat : Nat) : Int) := by omega
     have hnx := pA g1
     have hb : i.bytes * 1 ≤ i.bytes * 1 := Nat.le_refl _
     have run := Lib.run_append_grow_zeros w t t2 ty e j z kq kn (by rw [hi0.und, hd]) (by rw [hi2.und, hkn]) hj hjz cX len mm ya.toList (by rw [hjs]; simpa using q1) kk.toNat (by omega) (by omega) g1 (by omega)
      (by
       rw [hjb]
       refine Nat.le_trans (Nat.mul_le_mul_right _ ?_) b1
       omega)
      (by
       rw [hjb]
       exact Nat.le_trans (Nat.mul_le_mul_right _ hnx) b1)
     rw [← hk] at run
     have hcap : len + kk.toNat ≤ grownCap w (len + kk.toNat) mm e := grownCap_ge w _ _ _
     obtain ⟨_, _, ρ', p1, p2⟩ := rJ h9 ho hr4.drew hf4 hi hxl hlen _ hcap z.cells hzs
     exact ⟨_, _, ρ', run, (p1.drew).after e34, p2⟩
    | none => exact (aC h4).elim
   | _ => exact (aC h4).elim
  | _ => rw [hd] at h2; exact (aC h2).elim
 ·exact (aC h).elim
theorem HT {ts : Array TypeId} {ty t t2 : TypeId} {rest : List TypeId} (hts : ts.toList = t :: t2 :: rest) {i2 : TI} (hi2 : TOk E.P t2 i2) (hd2 : sV i2.desc = false) {a b : a9} (h : (append E t a b).run s = .ok v s') (ho : bT s')
  (hr : Rel E.P ρ m s.heap.get w) (hf : eC ρ s s') {x y : Value} (hx : R ρ m a x) (hy : R ρ m b y) : Out E.P ρ m s w s' v ((Builtin.append_ ts ty #[x, y]).run E.P w) := by
 obtain ⟨d, s1, h1, h2⟩ := M.aG h
 obtain ⟨⟨i0, hi0, rfl⟩, rfl⟩ := eI h1
 have hu := hi0.dF (w := w)
 have hu2 := hi2.dF (w := w)
 cases hd : i0.desc with
 | slice e =>
  rw [hd] at h2 hu
  obtain ⟨i, s2, h3, h4⟩ := M.aG h2
  obtain ⟨hi, rfl⟩ := lI h3
  obtain ⟨n, s3, h5, h6⟩ := M.aG h4
  obtain ⟨rfl, hn⟩ := nO (P := E.P) (w := w) h5 hy
  obtain ⟨nothing, s4, h7, h8, ho4, _, hnx⟩ := M.aL h6 ho
  obtain ⟨hq, e4⟩ := qS h7 ho4
  have hr4 := hr.bN e4
  have hf4 := hf.bN e4
  cases nothing with
  | true =>
   have hn0 : n = 0 := Nat.eq_of_beq_eq_true hq.symm
   subst hn0
   have hfc := wK (P := E.P) (w := w) h5 hy i.size
   have fin : ∀ (cX : Option Addr) (l c : Nat), l ≤ c → (Builtin.append_ ts ty #[.slice cX l c, y]).run E.P w = .ok (.slice cX l c) w := fun cX l c hlc =>
    jL hts hu hu2 hd2 hi hn (by omega) hfc (fun a _ => rfl) (fun _ => rfl)
   try simp only at h8
   split at h8
   ·obtain ⟨rfl, rfl⟩ := aD h8
    cases hx with
    | aN => rw [fin none 0 0 (Nat.le_refl _)]; exact .same hr e4 .aN
   ·obtain ⟨rfl, rfl⟩ := aD h8
    cases hx with
    | emp ad => rw [fin ad 0 0 (Nat.le_refl _)]; exact .same hr e4 (.emp _)
   ·obtain ⟨rfl, rfl⟩ := aD h8
    cases hx with
    | slx _ _ _ c _ r hρ hl => rw [fin _ _ _ hl]; exact .same hr e4 (.slx _ _ _ _ _ r hρ hl)
    | slw _ _ _ c _ r hρ hl hs hc => rw [fin _ _ _ hl]; exact .same hr e4 (.slw _ _ _ _ _ r hρ hl hs hc)
    | sl0 _ _ _ _ ad hc hn' => rw [fin _ _ _ (Nat.le_refl _)]; exact .same hr e4 (.sl0 _ _ _ _ _ hc hn')
   ·obtain ⟨rfl, rfl⟩ := aD h8
    cases hx with
    | isl _ _ _ _ b o c g' hg hrr hl => rw [fin _ _ _ hl]; exact .same hr e4 (.isl _ _ _ _ b o c g' hg hrr hl)
    | uA _ _ _ c ad => rw [fin _ _ _ (Nat.zero_le _)]; exact .same hr e4 (.uA _ _ _ _ _)
   ·exact (aC h8).elim
  | false =>
   have hn0 : n ≠ 0 := by rintro rfl; cases hq
   obtain ⟨xs, s5, h9, h10, ho5, _, _⟩ := M.aL h8 ho
   obtain ⟨xa, k1, k2, k3, e5⟩ := eM h9 ho5 hr4 hy
   obtain ⟨xa1, q1, q2, q3, _⟩ := eM h9 ho5 hr4.drew hy
   have e45 := e4.trans e5
   have hr5 := hr.bN e45
   have hf5 := hf.bN e45
   have fc0 : ∀ (o : Option Addr) (l c : Nat) (w : World), (Builtin.firstCells i.size 0 (.slice o l c)).run E.P w = .ok #[] w := by
    intro o l c w
    cases o with
    | none => rfl
    | some ad => simp only [Builtin.firstCells, Nat.zero_mul]; rfl
   try simp only at h10
   split at h10
   ·cases hx with
    | aN =>
     obtain ⟨z, w', ρ', g1, g2, g3⟩ := nT (ys := []) (cX := none) (sLen := 0) (sCap := 0) (ty := ty) hts hu hu2 hd2 hi hn (by omega) (fc0 _ _ _ _) q1 .nil q2 (by simp) q3 (by omega) h10 ho hr5 hf5
     exact ⟨z, w', ρ', g1, g2.after e45, g3⟩
   ·cases hx with
    | emp ad =>
     obtain ⟨z, w', ρ', g1, g2, g3⟩ := nT (ys := []) (cX := ad) (sLen := 0) (sCap := 0) (ty := ty) hts hu hu2 hd2 hi hn (by omega) (fc0 _ _ _ _) q1 .nil q2 (by simp) q3 (by omega) h10 ho hr5 hf5
     exact ⟨z, w', ρ', g1, g2.after e45, g3⟩
   ·rename_i id off len cap sz
    obtain ⟨hsz, h11⟩ := dM h10
    obtain ⟨bb, s6, h12, h13, ho6, _, _⟩ := M.aL h11 ho
    obtain ⟨hg, e6⟩ := dE h12
    obtain ⟨c, t', rfl, h14⟩ := iW h13
    have e46 := e45.trans e6
    cases cap with
    | some mm =>
     obtain ⟨fits, s7, h15, h16, ho7, _, _⟩ := M.aL h14 ho
     obtain ⟨hq2, e7⟩ := qS h15 ho7
     have e47 := e46.trans e7
     have hr7 := hr.bN e47
     have hf7 := hf.bN e47
     cases fits with
     | true =>
      have hle : len + n ≤ mm := Nat.le_of_ble_eq_true hq2.symm
      obtain ⟨_, s8, h17, h18⟩ := M.aG h16
      obtain ⟨rfl, rfl⟩ := aD h18
      cases hx with
      | slx _ _ _ _ _ r hρ hl =>
       obtain ⟨ad, w', g1, g2, g3⟩ := iJ h17 ho hr7 (.ptr id (off + len * i.size) r hρ) (xs := xa.toList) (by simpa using k2.len) (fun j p q hp hq => k2.at_ j p q hp (by simpa using hq))
       injection g1 with g1
       injection g1 with g1
       subst g1
       refine ⟨_, w', ρ, jL hts hu hu2 hd2 hi hn hle k1 (fun a ha => ?_) (fun h => by cases h), g3.after e47, .slx _ _ _ _ _ r hρ hle⟩
       injection ha with ha
       subst ha
       rw [dU]; exact g2
      | sl0 _ _ _ _ ad hc hn' =>
       have := hc mm rfl
       omega
     | false =>
      have hle : ¬ len + n ≤ mm := fun x => by
       have : (len + n).ble mm = true := Nat.ble_eq_true_of_le x
       rw [this] at hq2; cases hq2
      obtain ⟨ys, s8, h17, h18, ho8, _, _⟩ := M.aL h16 ho
      obtain ⟨ya, p1, p2, p3, e8⟩ := eM h17 ho8 hr7.drew hx
      have e48 := e47.trans e8
      cases hx with
      | slx _ _ _ _ _ r hρ hl =>
       obtain ⟨z, w', ρ', g1, g2, g3⟩ := nT (ty := ty) hts hu hu2 hd2 hi hn hle p1 q1 p2 q2 p3 q3 rfl h18 ho (hr.bN e48) (hf.bN e48)
       exact ⟨z, w', ρ', g1, g2.after e48, g3⟩
      | sl0 _ _ _ _ ad hc hn' =>
       obtain rfl := hc mm rfl
       obtain ⟨z, w', ρ', g1, g2, g3⟩ := nT (ty := ty) hts hu hu2 hd2 hi hn hle p1 q1 p2 q2 p3 q3 rfl h18 ho (hr.bN e48) (hf.bN e48)
       exact ⟨z, w', ρ', g1, g2.after e48, g3⟩
    | none =>
     obtain ⟨fits, s7, h15, h16, ho7, _, _⟩ := M.aL h14 ho
     obtain ⟨hq2, e7⟩ := qS h15 ho7
     have e47 := e46.trans e7
     have hr7 := hr.bN e47
     have hf7 := hf.bN e47
     have hg7 : s7.heap.get id = some (.row c t') := by rw [e7.heap, e6.heap]; exact hg
     cases fits with
     | true =>
      have hle : off + (len + n) * i.size ≤ c.size := Nat.le_of_ble_eq_true hq2.symm
      obtain ⟨_, s8, h17, h18, ho8, _, _⟩ := M.aL h16 ho
      obtain ⟨hpos, e8⟩ := dQ h17 ho8
      have hpos' : 0 < i.size := Nat.le_of_ble_eq_true hpos
      have e48 := e47.trans e8
      have hr8 := hr.bN e48
      obtain ⟨_, s9, h19, h20⟩ := M.aG h18
      obtain ⟨rfl, rfl⟩ := aD h20
      cases hx with
      | slw _ _ _ cc _ r hρ hl hs hc =>
       obtain ⟨arr, fr, _, _, hn', hcs, _⟩ := hr7.row hg7 hρ
       have hfit : len + n ≤ cc := by
        have : (len + n) * i.size ≤ cc * i.size := by rw [← hsz]; rw [← hsz] at hle; omega
        exact Nat.le_of_mul_le_mul_right this hpos'
       obtain ⟨ad, w', g1, g2, g3⟩ := iJ h19 ho hr8 (.ptr id (off + len * i.size) r hρ) (xs := xa.toList) (by simpa using k2.len) (fun j p q hp hq => k2.at_ j p q hp (by simpa using hq))
       injection g1 with g1
       injection g1 with g1
       subst g1
       refine ⟨_, w', ρ, jL hts hu hu2 hd2 hi hn hfit k1 (fun a ha => ?_) (fun h => by cases h), g3.after e48, .slw _ _ _ _ _ r hρ hfit hs hc⟩
       injection ha with ha
       subst ha
       rw [dU]; exact g2
      | sl0 _ _ _ _ ad hc hn' =>
       obtain ⟨r, hρ, hro⟩ := hn' rfl
       obtain ⟨arr, fr, _, _, hn', hcs, _⟩ := hr7.row hg7 hρ
       have : 0 < (0 + n) * i.size := Nat.mul_pos (by omega) hpos'
       omega
     | false =>
      have hle : ¬ off + (len + n) * i.size ≤ c.size := fun x => by
       have : (off + (len + n) * i.size).ble c.size = true := Nat.ble_eq_true_of_le x
       rw [this] at hq2; cases hq2
      try simp only at h16
      split at h16
      ·rename_i hc0
       simp only [Bool.and_eq_true] at hc0
       have hoff : off = 0 := Nat.eq_of_beq_eq_true hc0.1.1
       have hte : t' = e := Nat.eq_of_beq_eq_true hc0.1.2
       subst hoff
       subst hte
       obtain ⟨ys, s8, h17, h18, ho8, _, _⟩ := M.aL h16 ho
       obtain ⟨ya, p1, p2, p3, e8⟩ := eM h17 ho8 hr7.drew hx
       obtain ⟨ya0, p1', p2', p3', _⟩ := eM h17 ho8 hr7 hx
       have e48 := e47.trans e8
       obtain ⟨_, s9, h19, h20⟩ := M.aG h18
       obtain ⟨_, kn, kh⟩ := tY h19
       have hr9 : Rel E.P ρ m s9.heap.get w := (hr.bN e48).zO kh
       have hf9 : eC ρ s9 s' := fun id hid => (hf.bN e48) id ⟨by have := hid.1; omega, hid.2⟩
       have toS : ∀ {ρ' : Ren} {w' : World}, dV E.P ρ m s9 w ρ' m s' w' → dV E.P ρ m _ w ρ' m s' w' := fun g2 =>
        (dV.mk g2.ren (fun id hid => (g2.new id hid).imp_right fun x => ⟨by have := x.1; omega, x.2⟩) g2.mem g2.rel g2.fr (by have := g2.next; omega) : dV E.P ρ m s8 w _ m s' _).after e48
       cases hx with
       | slw _ _ _ cc _ r hρ hl hs hc =>
        by_cases hfit : len + n ≤ cc
        ·-- dW is room after all
         obtain ⟨_, s10, h21, h22, ho10, _, _⟩ := M.aL h20 ho
         obtain ⟨_, e10⟩ := dQ h21 ho10
         obtain ⟨id', s11, h23, h24⟩ := M.aG h22
         obtain ⟨rfl, rfl⟩ := aD h24
         obtain ⟨n1, n2, n3⟩ := vB h23
         obtain ⟨arr, fr, ha, hes, han, hcs, hrr, hfr, hm⟩ := hr7.row hg7 hρ
         have hone : ∀ y ∈ xa.toList, y.oneCell' = true := by
          intro y hy
          obtain ⟨j, hj⟩ := List.getElem?_of_mem hy
          have hj' : xa[j]? = some y := by simpa using hj
          have hlt := (Array.getElem?_eq_some_iff.1 hj').1
          have hv : xs[j]? = some (xs[j]'(by rw [k2.len]; exact hlt)) := List.getElem?_eq_getElem _
          exact (k2.at_ j _ _ hv hj').bB (List.all_eq_true.1 hc0.2 _ (List.getElem_mem _))
         have hsz' : len * i.size + 0 + xa.toList.length ≤ arr.size := by
          have h1 : xa.size = n * i.size := by rw [← k2.len]; exact k3
          have h2 : (len + n) * i.size ≤ cc * sz := by rw [hsz]; exact Nat.mul_le_mul_right _ hfit
          rw [Nat.add_mul] at h2
          simp only [Array.length_toList]; omega
         obtain ⟨arr', g1, g2, g3⟩ := pR E.P r.b (len * i.size) t' fr xa.toList 0 w arr ha hfr.out hsz' hone
         have hys : ys = c.sub 0 (len * i.size) := by
          obtain ⟨_, u1⟩ := dM h17
          obtain ⟨b2, u2, u3, u4⟩ := M.aG u1
          obtain ⟨u5, u6⟩ := dE u3
          obtain ⟨c2, t2', u7, u8⟩ := iW u4
          rw [hg7] at u5
          injection u5 with u5
          rw [u7] at u5
          injection u5 with u5 _
          obtain ⟨_, u9, u10, u11⟩ := M.aG u8
          obtain ⟨_, u12, u13, u14⟩ := M.aG u11
          obtain ⟨u15, _⟩ := aD u14
          rw [u15, u5]
         have hcl : len * i.size ≤ c.size := by
          obtain ⟨_, u1⟩ := dM h17
          obtain ⟨b2, u2, u3, u4, uo2, _, _⟩ := M.aL u1 ho8
          obtain ⟨u5, u6⟩ := dE u3
          obtain ⟨c2, t2', u7, u8⟩ := iW u4
          rw [hg7] at u5
          injection u5 with u5
          rw [u7] at u5
          injection u5 with u5 _
          obtain ⟨_, u9, u10, u11, uo3, _, _⟩ := M.aL u8 ho8
          obtain ⟨_, u12, u13, u14, uo4, _, _⟩ := M.aL u11 ho8
          obtain ⟨u15, _⟩ := dQ u13 uo4
          have := Nat.le_of_ble_eq_true u15
          rw [← u5] at this
          omega
         have hfresh : ρ id' = none := hf9 id' ⟨by have := e10.next; omega, by have := e10.next; omega⟩
         have hbr : BR E.P ρ m r (.row (.l (ys ++ xs)) t') (.cells arr' t' fr) := by
          refine .row r (.l (ys ++ xs)) t' arr' fr hes (by rw [g2]; exact han) ?_ ?_ (by rw [g2]; exact hfr)
          ·rw [g2, han, ← hc, ← hs]
           simp only [bG.size, List.length_append, p3', q3]
           rw [← Nat.add_mul]
           have : (len + n) * i.size ≤ cc * r.s := by rw [hs, hsz]; exact Nat.mul_le_mul_right _ hfit
           omega
          ·intro j z hj hz
           simp only [bG.size, List.length_append, p3', q3] at hj
           simp only [bG.at, gB]
           rw [g3 j] at hz
           by_cases c1 : j < len * i.size
           ·have c2 : ¬ (len * i.size + 0 ≤ j ∧ j < len * i.size + 0 + xa.toList.length) := by omega
            rw [if_neg c2] at hz
            rw [List.getElem?_append_left (by rw [p3']; exact c1), hys, bG.wU (by omega) c1, Nat.zero_add]
            exact hrr j z (by omega) hz
           ·have hxl : xa.toList.length = n * i.size := by
             have : xa.size = n * i.size := by rw [← k2.len]; exact k3
             simpa using this
            have c2 : len * i.size + 0 ≤ j ∧ j < len * i.size + 0 + xa.toList.length := by omega
            rw [if_pos c2] at hz
            rw [List.getElem?_append_right (by rw [p3']; omega), p3']
            have hv : xs[j - len * i.size]? = some (xs[j - len * i.size]'(by rw [k3]; omega)) := List.getElem?_eq_getElem _
            rw [hv]
            exact k2.at_ _ _ _ hv (by simpa using hz)
         have hr8 := hr.bN e48
         have hg8 : s8.heap.get id = some (.row c t') := by rw [e8.heap]; exact hg7
         have hu1 := hr8.upd (h' := fun j => if j = id then some (.row (.l (ys ++ xs)) t') else s8.heap.get j) hg8 hρ hbr (fun j => rfl)
         have hu2' := hu1.ND (id := id) (id' := id') (h' := s'.heap.get) (b := .row (.l (ys ++ xs)) t') (by simp) hρ hfresh (fun j => by
          rw [n3 j, e10.heap, kh j]
          by_cases c1 : j = id'
          ·simp [c1]
          ·by_cases c2 : j = id
           ·simp [c1, c2]
           ·simp [c1, c2])
         refine ⟨_, _, ρ.put id' r, jL hts hu hu2 hd2 hi hn hfit k1 (w' := World.upd w r.b (.cells arr' t' fr)) (fun a ha => ?_) (fun h => by cases h), toS ⟨gP.put hfresh, fun j hj => ?_, fun _ _ h => h, hu2', World.pH _ _ _, by have := e10.next; omega⟩, .slw id' 0 _ _ _ r (by simp [Ren.put]) hfit (hs.trans hsz) (by rw [← hsz]; exact hc)⟩
         ·injection ha with ha
          subst ha
          rw [dU, Nat.zero_add]; exact g1
         ·unfold Ren.put at hj
          by_cases c1 : j = id'
          ·exact .inr ⟨by have := e10.next; omega, by have := e10.next; omega⟩
          ·simp only [c1, if_false] at hj
           exact .inl hj
        ·obtain ⟨z, w', ρ', g1, g2, g3⟩ := nT (ty := ty) hts hu hu2 hd2 hi hn hfit p1 q1 p2 q2 p3 q3 rfl h20 ho hr9 hf9
         exact ⟨z, w', ρ', g1, toS g2, g3⟩
       | sl0 _ _ _ _ ad hc hn' =>
        obtain ⟨z, w', ρ', g1, g2, g3⟩ := nT (ty := ty) hts hu hu2 hd2 hi hn (by omega) p1 q1 p2 q2 p3 q3 rfl h20 ho hr9 hf9
        exact ⟨z, w', ρ', g1, toS g2, g3⟩
      ·exact (aC h16).elim
   ·exact (aC h10).elim
 | _ => rw [hd] at h2; exact (aC h2).elim
end
end Go.Am
set_option linter.unusedSimpArgs false
set_option linter.unusedVariables false
namespace Go.Am
open Go
variable {E : Env}
section
variable {ρ : Ren} {m : Mem} {s s' : St} {w : World} {v : a9}
theorem KG {P : Program} {op : BinOp} {k : IntKind} {a b : Int} (h : (intOp op k a b).run s = .ok v s') (ho : bT s') (hr : Rel P ρ m s.heap.get w) (t : TypeId) :
    Out P ρ m s w s' v ((Go.binOp op t (.int k a) (.int k b)).run P w) := by
  cases op <;> simp only [intOp] at h
  case quo =>
    obtain ⟨_, s1, h1, h2, ho1, _, _⟩ := M.aL h ho
    obtain ⟨h3, e⟩ := dQ h1 ho1
    obtain ⟨rfl, rfl⟩ := aD h2
    have hb : ¬ b = 0 := of_decide_eq_true h3
    simp only [Go.binOp, ne_eq, not_true_eq_false, if_false, Op.intDiv, hb, Sem.run_pure]
    exact .same hr e (.int _ _)
  case rem =>
    obtain ⟨_, s1, h1, h2, ho1, _, _⟩ := M.aL h ho
    obtain ⟨h3, e⟩ := dQ h1 ho1
    obtain ⟨rfl, rfl⟩ := aD h2
    have hb : ¬ b = 0 := of_decide_eq_true h3
    simp only [Go.binOp, ne_eq, not_true_eq_false, if_false, Op.intDiv, hb, Sem.run_pure]
    exact .same hr e (.int _ _)
  case shl => exact (aC h).elim
  case shr => exact (aC h).elim
  all_goals
    obtain ⟨rfl, rfl⟩ := aD h
    simp only [Go.binOp, ne_eq, not_true_eq_false, if_false, Op.intArith, Op.intBits, Op.intCmp, Sem.run_pure]
    first
      | exact .same hr (.refl _) (.int _ _)
      | exact .same hr (.refl _) (.bool _)
theorem DF {P : Program} {op : BinOp} {k k' : IntKind} {a b : Int} (h : (BJ op k a b).run s = .ok v s') (ho : bT s') (hr : Rel P ρ m s.heap.get w) (t : TypeId) :
    Out P ρ m s w s' v ((Go.binOp op t (.int k a) (.int k' b)).run P w) := by
  obtain ⟨_, s1, h1, h2, ho1, _, _⟩ := M.aL h ho
  obtain ⟨h3, e⟩ := dQ h1 ho1
  have hb : ¬ b < 0 := by have := of_decide_eq_true h3; omega
  cases op <;> simp only at h2
  case shl =>
    obtain ⟨rfl, rfl⟩ := aD h2
    simp only [Go.binOp, Op.shift, hb, if_false, Sem.run_pure]
    exact .same hr e (.int _ _)
  case shr =>
    obtain ⟨rfl, rfl⟩ := aD h2
    simp only [Go.binOp, Op.shift, hb, if_false, Sem.run_pure]
    exact .same hr e (.int _ _)
  all_goals exact (aC h2).elim
theorem toList_eq (l : List UInt8) : (⟨⟨l⟩⟩ : ByteArray).toList = l := by
  rw [ByteArray.toList_eq]
theorem JM {P : Program} {op : BinOp} {x y : List UInt8} (h : (strOp op x y).run s = .ok v s') (ho : bT s') (hr : Rel P ρ m s.heap.get w) (t : TypeId) :
    Out P ρ m s w s' v ((Go.binOp op t (.string ⟨⟨x⟩⟩) (.string ⟨⟨y⟩⟩)).run P w) := by
  cases op <;> simp only [strOp] at h
  case add =>
    obtain ⟨_, s1, h1, h2, ho1, _, _⟩ := M.aL h ho
    obtain ⟨h3, e⟩ := dQ h1 ho1
    obtain ⟨rfl, rfl⟩ := aD h2
    have h4 := of_decide_eq_true h3
    have hsz : ¬ ((((⟨⟨x⟩⟩ : ByteArray).size + (⟨⟨y⟩⟩ : ByteArray).size : Nat) : Int) > IntKind.i64.max) := by
      have e1 : (⟨⟨x⟩⟩ : ByteArray).size = x.length := rfl
      have e2 : (⟨⟨y⟩⟩ : ByteArray).size = y.length := rfl
      have e3 : IntKind.i64.max = 9223372036854775807 := rfl
      rw [e1, e2, e3]; omega
    have happ : (⟨⟨x⟩⟩ ++ ⟨⟨y⟩⟩ : ByteArray) = ⟨⟨x ++ y⟩⟩ := by
      have : (⟨⟨x⟩⟩ ++ ⟨⟨y⟩⟩ : ByteArray).data = ⟨x ++ y⟩ := by rw [ByteArray.data_append]; simp
      cases hh : (⟨⟨x⟩⟩ ++ ⟨⟨y⟩⟩ : ByteArray) with
      | mk d => rw [hh] at this; simp only at this; rw [this]
    simp only [Go.binOp, Op.stringOp, hsz, if_false, Sem.run_pure, happ]
    exact .same hr e (.str _)
  all_goals
    first
      | exact (aC h).elim
      | (obtain ⟨rfl, rfl⟩ := aD h
         simp only [Go.binOp, Op.stringOp, Sem.run_pure, toList_eq]
         exact .same hr (.refl _) (.bool _))
theorem rQ {a : a9} {b : Bool} (h : (eO a).run s = .ok b s') {x : Value} (hx : R ρ m a x) : s' = s ∧ x = .bool b := by
  unfold eO at h
  split at h
  · obtain ⟨rfl, rfl⟩ := aD h; exact ⟨rfl, hx.iP⟩
  · obtain ⟨rfl, rfl⟩ := aD h; exact ⟨rfl, hx.qP⟩
  · exact (aC h).elim
theorem rD {a : a9} {b : Bool} (h : (eN a).run s = .ok b s') {x : Value} (hx : R ρ m a x) : s' = s ∧ ((b = true ∧ x = .pointer none) ∨ (b = false ∧ ∃ ad, x = .pointer (some ad))) := by
  unfold eN at h
  split at h
  · obtain ⟨rfl, rfl⟩ := aD h; cases hx; exact ⟨rfl, .inl ⟨rfl, rfl⟩⟩
  · obtain ⟨rfl, rfl⟩ := aD h; cases hx; exact ⟨rfl, .inr ⟨rfl, _, rfl⟩⟩
  · obtain ⟨rfl, rfl⟩ := aD h; cases hx; exact ⟨rfl, .inr ⟨rfl, _, rfl⟩⟩
  · exact (aC h).elim
theorem tU {a : a9} {b : Bool} (h : (gN a).run s = .ok b s') {x : Value} (hx : R ρ m a x) : s' = s ∧ ((b = true ∧ x = .nilFunc) ∨ (b = false ∧ ∃ f p q, x = .func f p q)) := by
  unfold gN at h
  split at h
  · obtain ⟨rfl, rfl⟩ := aD h; cases hx; exact ⟨rfl, .inl ⟨rfl, rfl⟩⟩
  · obtain ⟨rfl, rfl⟩ := aD h; cases hx; exact ⟨rfl, .inr ⟨rfl, _, _, _, rfl⟩⟩
  · exact (aC h).elim
theorem tT {a : a9} {b : Bool} (h : (sF a).run s = .ok b s') {x : Value} (hx : R ρ m a x) : s' = s ∧ ((b = true ∧ x = .slice none 0 0) ∨ (b = false ∧ ∃ ad l c, x = .slice (some ad) l c)) := by
  unfold sF at h
  split at h
  · obtain ⟨rfl, rfl⟩ := aD h; cases hx; exact ⟨rfl, .inl ⟨rfl, rfl⟩⟩
  · obtain ⟨rfl, rfl⟩ := aD h; cases hx <;> exact ⟨rfl, .inr ⟨rfl, _, _, _, rfl⟩⟩
  · obtain ⟨rfl, rfl⟩ := aD h; cases hx <;> exact ⟨rfl, .inr ⟨rfl, _, _, _, rfl⟩⟩
  · exact (aC h).elim
theorem rF {a : a9} {b : Bool} (h : (BY a).run s = .ok b s') {x : Value} (hx : R ρ m a x) : s' = s ∧ ((b = true ∧ x = .map none) ∨ (b = false ∧ ∃ r, x = .map (some r))) := by
  unfold BY at h
  split at h
  · obtain ⟨rfl, rfl⟩ := aD h; cases hx; exact ⟨rfl, .inl ⟨rfl, rfl⟩⟩
  · obtain ⟨rfl, rfl⟩ := aD h; cases hx; exact ⟨rfl, .inr ⟨rfl, _, rfl⟩⟩
  · exact (aC h).elim
theorem xC : ∀ (l : List (QE E.P)) (t : Nat), zR E l t = true → E.P.stoodInHeld t = false ∧ E.P.eqGuardType E.P.depth t = false
  | [], _, h => by cases h
  | q :: l, t, h => by
    simp only [zR, Bool.or_eq_true] at h
    rcases h with h | h
    · have := Nat.eq_of_beq_eq_true h
      rw [← this]
      exact ⟨q.held, q.guard⟩
    · exact xC l t h
def uG (d : Nat) (e : TypeId) (n : Nat) (xs ys : Array Value) : List Nat → Sem Bool
  | [] => pure true
  | i :: l => do
      let a ← Go.part e xs (i * n)
      let b ← Go.part e ys (i * n)
      let r ← Op.equalIn d e a b
      if (!r) = true then pure false else uG d e n xs ys l
theorem tK {P : Program} (w : World) (d : Nat) (t : TypeId) (xs ys : Array Value) {n : Nat} {e : TypeId} {z : Nat} (ht : P.underlying t = some (.array n e)) (hz : ∀ {w : World}, (Go.sizeOf e).run P w = .ok z w) :
    (Op.equalIn (d + 1) t (.agg xs) (.agg ys)).run P w = (uG d e z xs ys (List.range n)).run P w := by
  simp only [Op.equalIn, Sem.run_bind, run_underlying ht, Result.andThen_ok, hz]
  rw [Std.Legacy.Range.forIn_eq_forIn_range']
  simp only [Std.Legacy.Range.size, Nat.sub_zero, Nat.add_sub_cancel, Nat.div_one, ← List.range_eq_range']
  generalize List.range n = fs
  clear ht
  induction fs generalizing w with
  | nil => simp [uG]
  | cons f fs ih =>
    simp only [List.forIn_cons, uG, Sem.run_bind, Sem.run_ite]
    generalize (Go.part e xs (f * z)).run P w = r1
    cases r1 with
    | ok a w1 =>
      simp only [Result.andThen_ok]
      generalize (Go.part e ys (f * z)).run P w1 = r2
      cases r2 with
      | ok b w2 =>
        simp only [Result.andThen_ok]
        generalize (Op.equalIn d e a b).run P w2 = r3
        cases r3 with
        | ok r w3 =>
          cases r
          · simp only [Result.andThen_ok, Bool.not_false, if_true, Sem.run_pure]
          · simp only [Result.andThen_ok, Bool.not_true, Bool.false_eq_true, if_false, Sem.run_pure]
            exact ih w3
        | halt x w3 => simp [Result.andThen]
      | halt x w2 => simp [Result.andThen]
    | halt x w1 => simp [Result.andThen]
theorem vK : ∀ (d k : Nat) {t : TypeId} {a b : a9} {c : Bool} {s s' : St}, (equal E d t a b).run s = .ok c s' → bT s' → ∀ {x y : Value}, R ρ m a x → R ρ m b y → ∀ w : World,
    fL s s' ∧ (Op.equalIn (d + k) t x y).run E.P w = .ok c w := by
  intro d
  induction d with
  | zero => intro k t a b c s s' h; exact (aC h).elim
  | succ d ih =>
    intro k t a b c s s' h ho x y hx hy w
    obtain ⟨u, s1, h1, h2⟩ := M.aG h
    obtain ⟨⟨i, hi, rfl⟩, rfl⟩ := eI h1
    have hu := hi.dF (w := w)
    have ek : d + 1 + k = (d + k) + 1 := by omega
    rw [ek]
    cases hd : i.desc with
    | bool =>
      rw [hd] at h2 hu
      obtain ⟨p, s2, h3, h4⟩ := M.aG h2
      obtain ⟨rfl, rfl⟩ := rQ h3 hx
      obtain ⟨q, s3, h5, h6⟩ := M.aG h4
      obtain ⟨rfl, rfl⟩ := rQ h5 hy
      obtain ⟨rfl, rfl⟩ := aD h6
      exact ⟨.refl _, by simp only [Op.equalIn, Sem.run_bind, hu, Result.andThen_ok, Sem.run_pure]⟩
    | int kk =>
      rw [hd] at h2 hu
      simp only at h2
      split at h2
      · split at h2
        · rename_i k1 n1 _ k2 n2
          split at h2
          · rename_i hk
            have hk' : k1 = k2 := of_decide_eq_true hk
            subst hk'
            obtain ⟨rfl, rfl⟩ := aD h2
            obtain rfl := hx.cH
            obtain rfl := hy.cH
            exact ⟨.refl _, by simp only [Op.equalIn, Sem.run_bind, hu, Result.andThen_ok, if_true, Sem.run_pure]⟩
          · exact (aC h2).elim
        · exact (aC h2).elim
      · exact (aC h2).elim
    | string =>
      rw [hd] at h2 hu
      obtain ⟨l, rfl, h3⟩ := lK h2
      obtain ⟨l', rfl, h4⟩ := lK h3
      obtain ⟨rfl, rfl⟩ := aD h4
      obtain rfl := hx.gR
      obtain rfl := hy.gR
      refine ⟨.refl _, ?_⟩
      have : ((⟨⟨l⟩⟩ : ByteArray) == ⟨⟨l'⟩⟩) = (l == l') := by
        rw [beq_toListBytes, toList_eq, toList_eq]
      simp only [Op.equalIn, Sem.run_bind, hu, Result.andThen_ok, Sem.run_pure, this]
    | pointer e =>
      rw [hd] at h2 hu
      obtain ⟨p, s2, h3, h4⟩ := M.aG h2
      obtain ⟨rfl, hp⟩ := rD h3 hx
      obtain ⟨q, s3, h5, h6⟩ := M.aG h4
      obtain ⟨rfl, hq⟩ := rD h5 hy
      rcases hp with ⟨rfl, rfl⟩ | ⟨rfl, ad, rfl⟩
      · obtain ⟨rfl, rfl⟩ := aD h6
        rcases hq with ⟨rfl, rfl⟩ | ⟨rfl, ad, rfl⟩
        · exact ⟨.refl _, by simp only [Op.equalIn, Sem.run_bind, hu, Result.andThen_ok, Sem.run_pure]; rfl⟩
        · exact ⟨.refl _, by simp only [Op.equalIn, Sem.run_bind, hu, Result.andThen_ok, Sem.run_pure]; rfl⟩
      · rcases hq with ⟨rfl, rfl⟩ | ⟨rfl, ad', rfl⟩
        · obtain ⟨rfl, rfl⟩ := aD h6
          exact ⟨.refl _, by simp only [Op.equalIn, Sem.run_bind, hu, Result.andThen_ok, Sem.run_pure]; rfl⟩
        · exact (aC h6).elim
    | func a1 b1 c1 =>
      rw [hd] at h2 hu
      obtain ⟨p, s2, h3, h4⟩ := M.aG h2
      obtain ⟨rfl, hp⟩ := tU h3 hx
      obtain ⟨q, s3, h5, h6⟩ := M.aG h4
      obtain ⟨rfl, hq⟩ := tU h5 hy
      rcases hp with ⟨rfl, rfl⟩ | ⟨rfl, f, pp, qq, rfl⟩
      · obtain ⟨rfl, rfl⟩ := aD h6
        rcases hq with ⟨rfl, rfl⟩ | ⟨rfl, f, pp, qq, rfl⟩
        · exact ⟨.refl _, by simp only [Op.equalIn, Sem.run_bind, hu, Result.andThen_ok, Sem.run_pure, Bool.and_self]⟩
        · exact ⟨.refl _, by simp only [Op.equalIn, Sem.run_bind, hu, Result.andThen_ok, Sem.run_pure, Bool.and_false]⟩
      · rcases hq with ⟨rfl, rfl⟩ | ⟨rfl, f', pp', qq', rfl⟩
        · obtain ⟨rfl, rfl⟩ := aD h6
          exact ⟨.refl _, by simp only [Op.equalIn, Sem.run_bind, hu, Result.andThen_ok, Sem.run_pure]; rfl⟩
        · exact (aC h6).elim
    | slice e =>
      rw [hd] at h2 hu
      obtain ⟨p, s2, h3, h4⟩ := M.aG h2
      obtain ⟨rfl, hp⟩ := tT h3 hx
      obtain ⟨q, s3, h5, h6⟩ := M.aG h4
      obtain ⟨rfl, hq⟩ := tT h5 hy
      rcases hp with ⟨rfl, rfl⟩ | ⟨rfl, ad, l1, c1, rfl⟩
      · obtain ⟨rfl, rfl⟩ := aD h6
        rcases hq with ⟨rfl, rfl⟩ | ⟨rfl, ad, l1, c1, rfl⟩
        · exact ⟨.refl _, by simp only [Op.equalIn, Sem.run_bind, hu, Result.andThen_ok, Sem.run_pure]; rfl⟩
        · exact ⟨.refl _, by simp only [Op.equalIn, Sem.run_bind, hu, Result.andThen_ok, Sem.run_pure]; rfl⟩
      · rcases hq with ⟨rfl, rfl⟩ | ⟨rfl, ad', l2, c2, rfl⟩
        · obtain ⟨rfl, rfl⟩ := aD h6
          exact ⟨.refl _, by simp only [Op.equalIn, Sem.run_bind, hu, Result.andThen_ok, Sem.run_pure]; rfl⟩
        · exact (aC h6).elim
    | map k1 e1 =>
      rw [hd] at h2 hu
      obtain ⟨p, s2, h3, h4⟩ := M.aG h2
      obtain ⟨rfl, hp⟩ := rF h3 hx
      obtain ⟨q, s3, h5, h6⟩ := M.aG h4
      obtain ⟨rfl, hq⟩ := rF h5 hy
      rcases hp with ⟨rfl, rfl⟩ | ⟨rfl, r, rfl⟩
      · obtain ⟨rfl, rfl⟩ := aD h6
        rcases hq with ⟨rfl, rfl⟩ | ⟨rfl, r, rfl⟩
        · exact ⟨.refl _, by simp only [Op.equalIn, Sem.run_bind, hu, Result.andThen_ok, Sem.run_pure]; rfl⟩
        · exact ⟨.refl _, by simp only [Op.equalIn, Sem.run_bind, hu, Result.andThen_ok, Sem.run_pure]; rfl⟩
      · rcases hq with ⟨rfl, rfl⟩ | ⟨rfl, r', rfl⟩
        · obtain ⟨rfl, rfl⟩ := aD h6
          exact ⟨.refl _, by simp only [Op.equalIn, Sem.run_bind, hu, Result.andThen_ok, Sem.run_pure]; rfl⟩
        · exact (aC h6).elim
    | struct fs =>
      rw [hd] at h2 hu
      simp only at h2
      split at h2
      · rename_i hq
        obtain ⟨hheld, _⟩ := xC _ _ hq
        obtain ⟨l, rfl, h3⟩ := kU h2
        obtain ⟨l', rfl, h4⟩ := kU h3
        obtain ⟨xs, rfl, hxs⟩ := hx.iH
        obtain ⟨ys, rfl, hys⟩ := hy.iH
        have hfs : E.P.fieldsOf t = fs := by simp [Program.fieldsOf, hi.und, hd]
        have hut : E.P.underlying t = some (.struct (E.P.fieldsOf t)) := by rw [hfs, hi.und, hd]
        rw [run_equalIn_struct w (d + k) t xs ys hut hheld, hfs]
        clear h1 h2 h3 h hx hy
        revert c s1 s'
        induction fs.toList with
        | nil =>
          intro c s' ho s1 h
          obtain ⟨rfl, rfl⟩ := aD h
          exact ⟨.refl _, rfl⟩
        | cons f fl ihl =>
          intro c s' ho s1 h
          obtain ⟨p, s2, h5, h6, ho2, _, _⟩ := M.aL h ho
          obtain ⟨q, s3, h7, h8, ho3, _, _⟩ := M.aL h6 ho
          obtain ⟨rfl, rfl⟩ := aD h8
          obtain ⟨e2, r2⟩ := ihl ho3 _ h7
          simp only at h5
          split at h5
          · rename_i hn
            have hn' : f.name = "_" := of_decide_eq_true hn
            obtain ⟨rfl, rfl⟩ := aD h5
            refine ⟨e2, ?_⟩
            simp only [Op.eqFields, hn', ne_eq, not_true_eq_false, if_false, r2, Bool.true_and]
          · rename_i hn
            have hn' : ¬ f.name = "_" := of_decide_eq_false hn
            obtain ⟨a1, s4, k1, k2⟩ := M.aG h5
            obtain ⟨rfl, xa, k3, k4⟩ := kP k1 hxs w
            obtain ⟨b1, s5, k5, k6⟩ := M.aG k2
            obtain ⟨rfl, ya, k7, k8⟩ := kP k5 hys w
            obtain ⟨e1, r1⟩ := ih k k6 ho2 k4 k8 w
            refine ⟨e1.trans e2, ?_⟩
            simp only [Op.eqFields, ne_eq, hn', not_false_eq_true, if_true, Sem.run_bind, k3, k7, r1, Result.andThen_ok]
            cases p
            · simp
            · simp [r2]
      · exact (aC h2).elim
    | array n e =>
      rw [hd] at h2 hu
      simp only at h2
      split at h2
      · obtain ⟨l, rfl, h3⟩ := kU h2
        obtain ⟨l', rfl, h4⟩ := kU h3
        obtain ⟨xs, rfl, hxs⟩ := hx.iH
        obtain ⟨ys, rfl, hys⟩ := hy.iH
        obtain ⟨z, s2, h5, h6⟩ := M.aG h4
        obtain ⟨⟨j, hj, rfl⟩, rfl⟩ := fR h5
        rw [tK w (d + k) t xs ys (by rw [hi.und, hd]) hj.cZ]
        clear h1 h2 h3 h4 h5 h hx hy
        revert c s2 s'
        induction List.range n with
        | nil =>
          intro c s' ho s2 h
          obtain ⟨rfl, rfl⟩ := aD h
          exact ⟨.refl _, rfl⟩
        | cons q ql ihl =>
          intro c s' ho s2 h
          obtain ⟨p, s3, h5, h6, ho2, _, _⟩ := M.aL h ho
          obtain ⟨q1, s4, h7, h8, ho3, _, _⟩ := M.aL h6 ho
          obtain ⟨rfl, rfl⟩ := aD h8
          obtain ⟨e2, r2⟩ := ihl ho3 _ h7
          obtain ⟨a1, s5, k1, k2⟩ := M.aG h5
          obtain ⟨rfl, xa, k3, k4⟩ := kP k1 hxs w
          obtain ⟨b1, s6, k5, k6⟩ := M.aG k2
          obtain ⟨rfl, ya, k7, k8⟩ := kP k5 hys w
          obtain ⟨e1, r1⟩ := ih k k6 ho2 k4 k8 w
          refine ⟨e1.trans e2, ?_⟩
          simp only [uG, Sem.run_bind, k3, k7, r1, Result.andThen_ok]
          cases p
          · simp
          · simp [r2]
      · exact (aC h2).elim
    | _ => rw [hd] at h2; exact (aC h2).elim
end
end Go.Am
set_option linter.unusedSimpArgs false
set_option linter.unusedVariables false
namespace Go.Am
open Go
variable {E : Env}
section
variable {ρ : Ren} {m : Mem} {s s' : St} {w : World} {v : a9}
inductive Cmp (P : Program) (t : TypeId) : Value → Value → Prop
  | bool (a b : Bool) : Cmp P t (.bool a) (.bool b)
  | int (k : IntKind) (a b : Int) : Cmp P t (.int k a) (.int k b)
  | str (a b : ByteArray) : Cmp P t (.string a) (.string b)
  | ptr (a b : Option Addr) : Cmp P t (.pointer a) (.pointer b)
  | fnn : Cmp P t .nilFunc .nilFunc
  | fnf (f : Fn) (a b : Array Value) : Cmp P t .nilFunc (.func f a b)
  | ffn (f : Fn) (a b : Array Value) : Cmp P t (.func f a b) .nilFunc
  | sl (a b : Option Addr) (l c l' c' : Nat) : Cmp P t (.slice a l c) (.slice b l' c')
  | mp (a b : Option Nat) : Cmp P t (.map a) (.map b)
  | agg (a b : Array Value) (h : P.eqGuardType P.depth t = false) : Cmp P t (.agg a) (.agg b)
theorem KW {d : Nat} {t : TypeId} {a b : a9} {c : Bool} (h : (equal E (d + 1) t a b).run s = .ok c s') {x y : Value} (hx : R ρ m a x) (hy : R ρ m b y) : Cmp E.P t x y := by
  obtain ⟨u, s1, h1, h2⟩ := M.aG h
  cases u with
  | bool =>
    obtain ⟨p, s2, h3, h4⟩ := M.aG h2
    obtain ⟨rfl, rfl⟩ := rQ h3 hx
    obtain ⟨q, s3, h5, h6⟩ := M.aG h4
    obtain ⟨rfl, rfl⟩ := rQ h5 hy
    exact .bool _ _
  | int kk =>
    simp only at h2
    split at h2
    · split at h2
      · rename_i k1 n1 _ k2 n2
        split at h2
        · rename_i hk
          have hk' : k1 = k2 := of_decide_eq_true hk
          subst hk'
          obtain rfl := hx.cH
          obtain rfl := hy.cH
          exact .int _ _ _
        · exact (aC h2).elim
      · exact (aC h2).elim
    · exact (aC h2).elim
  | string =>
    obtain ⟨l, rfl, h3⟩ := lK h2
    obtain ⟨l', rfl, h4⟩ := lK h3
    obtain rfl := hx.gR
    obtain rfl := hy.gR
    exact .str _ _
  | pointer e =>
    obtain ⟨p, s2, h3, h4⟩ := M.aG h2
    obtain ⟨rfl, hp⟩ := rD h3 hx
    obtain ⟨q, s3, h5, h6⟩ := M.aG h4
    obtain ⟨rfl, hq⟩ := rD h5 hy
    rcases hp with ⟨rfl, rfl⟩ | ⟨rfl, ad, rfl⟩ <;> rcases hq with ⟨rfl, rfl⟩ | ⟨rfl, ad', rfl⟩ <;> exact .ptr _ _
  | func a1 b1 c1 =>
    obtain ⟨p, s2, h3, h4⟩ := M.aG h2
    obtain ⟨rfl, hp⟩ := tU h3 hx
    obtain ⟨q, s3, h5, h6⟩ := M.aG h4
    obtain ⟨rfl, hq⟩ := tU h5 hy
    rcases hp with ⟨rfl, rfl⟩ | ⟨rfl, f, pp, qq, rfl⟩
    · rcases hq with ⟨rfl, rfl⟩ | ⟨rfl, f, pp, qq, rfl⟩
      · exact .fnn
      · exact .fnf _ _ _
    · rcases hq with ⟨rfl, rfl⟩ | ⟨rfl, f', pp', qq', rfl⟩
      · exact .ffn _ _ _
      · exact (aC h6).elim
  | slice e =>
    obtain ⟨p, s2, h3, h4⟩ := M.aG h2
    obtain ⟨rfl, hp⟩ := tT h3 hx
    obtain ⟨q, s3, h5, h6⟩ := M.aG h4
    obtain ⟨rfl, hq⟩ := tT h5 hy
    rcases hp with ⟨rfl, rfl⟩ | ⟨rfl, ad, l1, c1, rfl⟩ <;> rcases hq with ⟨rfl, rfl⟩ | ⟨rfl, ad', l2, c2, rfl⟩ <;> exact .sl _ _ _ _ _ _
  | map k1 e1 =>
    obtain ⟨p, s2, h3, h4⟩ := M.aG h2
    obtain ⟨rfl, hp⟩ := rF h3 hx
    obtain ⟨q, s3, h5, h6⟩ := M.aG h4
    obtain ⟨rfl, hq⟩ := rF h5 hy
    rcases hp with ⟨rfl, rfl⟩ | ⟨rfl, r, rfl⟩ <;> rcases hq with ⟨rfl, rfl⟩ | ⟨rfl, r', rfl⟩ <;> exact .mp _ _
  | struct fs =>
    simp only at h2
    split at h2
    · rename_i hq
      obtain ⟨_, hgd⟩ := xC _ _ hq
      obtain ⟨l, rfl, h3⟩ := kU h2
      obtain ⟨l', rfl, h4⟩ := kU h3
      obtain ⟨xs, rfl, hxs⟩ := hx.iH
      obtain ⟨ys, rfl, hys⟩ := hy.iH
      exact .agg _ _ hgd
    · exact (aC h2).elim
  | array n e =>
    simp only at h2
    split at h2
    · rename_i hq
      obtain ⟨_, hgd⟩ := xC _ _ hq
      obtain ⟨l, rfl, h3⟩ := kU h2
      obtain ⟨l', rfl, h4⟩ := kU h3
      obtain ⟨xs, rfl, hxs⟩ := hx.iH
      obtain ⟨ys, rfl, hys⟩ := hy.iH
      exact .agg _ _ hgd
    · exact (aC h2).elim
  | _ => exact (aC h2).elim
theorem Cmp.guard {P : Program} {t : TypeId} {x y : Value} (h : Cmp P t x y) (op : BinOp) (a b : Operand) : (eqGuard op t a b x y).run P w = .ok () w := by
  cases h with
  | agg xs ys hg => exact run_eqGuard_agg w op t a b xs ys hg
  | ptr p q => cases op <;> cases p <;> cases q <;> rfl
  | _ => cases op <;> rfl
theorem KN {P : Program} (op : BinOp) (t : TypeId) (a b : Operand) (k k' : IntKind) (x y : Int) : (eqGuard op t a b (.int k x) (.int k' y)).run P w = .ok () w := by
  cases op <;> rfl
theorem KM {P : Program} (op : BinOp) (t : TypeId) (a b : Operand) (x y : ByteArray) : (eqGuard op t a b (.string x) (.string y)).run P w = .ok () w := by
  cases op <;> rfl
theorem CQ {op : BinOp} {t : TypeId} {a b : a9} (h : (bL E op t a b).run s = .ok v s') (ho : bT s') (hr : Rel E.P ρ m s.heap.get w) {x y : Value} (hx : R ρ m a x) (hy : R ρ m b y)
    (hni : ∀ k n, a ≠ .int k n) (hns : ∀ l, a ≠ .str l) (ox oy : Operand) : Out E.P ρ m s w s' v ((do eqGuard op t ox oy x y; Go.binOp op t x y : Sem Value).run E.P w) := by
  have key : ∀ c s1, (bS E t a b).run s = .ok c s1 → bT s1 → fL s s1 ∧ (Op.equal t x y).run E.P w = .ok c w ∧ Cmp E.P t x y := fun c s1 he ho1 => by
    obtain ⟨e, r⟩ := vK 100 9900 he ho1 hx hy w
    exact ⟨e, r, KW he hx hy⟩
  have shape : ∀ x y, Cmp E.P t x y → (∀ k n, x ≠ .int k n) → (∀ l, x ≠ .string l) → Go.binOp .eql t x y = (do pure (.bool (← Op.equal t x y)) : Sem Value) ∧ Go.binOp .neq t x y = (do pure (.bool (!(← Op.equal t x y))) : Sem Value) := by
    intro x y hc h1 h2
    cases hc with
    | int k a b => exact absurd rfl (h1 k a)
    | str a b => exact absurd rfl (h2 a)
    | ptr p q => cases p <;> cases q <;> exact ⟨rfl, rfl⟩
    | _ => exact ⟨rfl, rfl⟩
  have nx : ∀ k n, x ≠ .int k n := by
    rintro k n rfl
    cases hx with
    | int => exact hni _ _ rfl
    | aA =>
      unfold bL at h
      split at h
      · obtain ⟨c, s1, he, _, ho1, _, _⟩ := M.aL h ho
        obtain ⟨u, s2, h1, h2⟩ := M.aG he
        cases u with
        | struct fs => simp only at h2; split at h2 <;> exact (aC h2).elim
        | array fs n => simp only at h2; split at h2 <;> exact (aC h2).elim
        | _ => exact (aC h2).elim
      · obtain ⟨c, s1, he, _, ho1, _, _⟩ := M.aL h ho
        obtain ⟨u, s2, h1, h2⟩ := M.aG he
        cases u with
        | struct fs => simp only at h2; split at h2 <;> exact (aC h2).elim
        | array fs n => simp only at h2; split at h2 <;> exact (aC h2).elim
        | _ => exact (aC h2).elim
      · exact (aC h).elim
  have ny : ∀ k, x ≠ .string k := by
    rintro k rfl
    cases hx with
    | str => exact hns _ rfl
    | aA =>
      unfold bL at h
      split at h
      · obtain ⟨c, s1, he, _, ho1, _, _⟩ := M.aL h ho
        obtain ⟨u, s2, h1, h2⟩ := M.aG he
        cases u with
        | struct fs => simp only at h2; split at h2 <;> exact (aC h2).elim
        | array fs n => simp only at h2; split at h2 <;> exact (aC h2).elim
        | _ => exact (aC h2).elim
      · obtain ⟨c, s1, he, _, ho1, _, _⟩ := M.aL h ho
        obtain ⟨u, s2, h1, h2⟩ := M.aG he
        cases u with
        | struct fs => simp only at h2; split at h2 <;> exact (aC h2).elim
        | array fs n => simp only at h2; split at h2 <;> exact (aC h2).elim
        | _ => exact (aC h2).elim
      · exact (aC h).elim
  unfold bL at h
  split at h
  · obtain ⟨c, s1, he, h2, ho1, _, _⟩ := M.aL h ho
    obtain ⟨rfl, rfl⟩ := aD h2
    obtain ⟨e, r, hc⟩ := key c _ he ho1
    simp only [Sem.run_bind, hc.guard, Result.andThen_ok, (shape x y hc nx ny).1, r, Sem.run_pure]
    exact .same hr e (.bool _)
  · obtain ⟨c, s1, he, h2, ho1, _, _⟩ := M.aL h ho
    obtain ⟨rfl, rfl⟩ := aD h2
    obtain ⟨e, r, hc⟩ := key c _ he ho1
    simp only [Sem.run_bind, hc.guard, Result.andThen_ok, (shape x y hc nx ny).2, r, Sem.run_pure]
    exact .same hr e (.bool _)
  · exact (aC h).elim
theorem LF {op : BinOp} {t : TypeId} {a b : a9} (h : (binOp E op t a b).run s = .ok v s') (ho : bT s') (hr : Rel E.P ρ m s.heap.get w) {x y : Value} (hx : R ρ m a x) (hy : R ρ m b y) (ox oy : Operand) :
    Out E.P ρ m s w s' v ((do eqGuard op t ox oy x y; Go.binOp op t x y : Sem Value).run E.P w) := by
  unfold binOp at h
  split at h
  · rename_i k n
    obtain rfl := hx.cH
    unfold fC at h
    split at h
    · rename_i k' n'
      obtain rfl := hy.cH
      simp only [Sem.run_bind, KN, Result.andThen_ok]
      split at h
      · exact DF h ho hr t
      · split at h
        · rename_i hk
          have hk' : k = k' := of_decide_eq_true hk
          subst hk'
          exact KG h ho hr t
        · exact (aC h).elim
    · exact (aC h).elim
  · obtain ⟨l, rfl, h2⟩ := lK h
    obtain rfl := hx.gR
    obtain rfl := hy.gR
    simp only [Sem.run_bind, KM, Result.andThen_ok]
    exact JM h2 ho hr t
  · rename_i h1 h2
    exact CQ h ho hr hx hy (fun k n e => h1 k n e) (fun l e => h2 l e) ox oy
theorem LS {P : Program} {op : UnOp} {a : a9} (h : (unOp op a).run s = .ok v s') (ho : bT s') (hr : Rel P ρ m s.heap.get w) {x : Value} (hx : R ρ m a x) :
    Out P ρ m s w s' v ((Op.unary op x).run P w) := by
  unfold unOp at h
  split at h
  · split at h
    · obtain ⟨rfl, rfl⟩ := aD h
      obtain rfl := hx.cH
      exact .same hr (.refl _) (.int _ _)
    · exact (aC h).elim
  · split at h
    · obtain ⟨rfl, rfl⟩ := aD h
      obtain rfl := hx.cH
      exact .same hr (.refl _) (.int _ _)
    · exact (aC h).elim
  · split at h
    · obtain ⟨rfl, rfl⟩ := aD h
      obtain rfl := hx.iP
      exact .same hr (.refl _) (.bool _)
    · obtain ⟨rfl, rfl⟩ := aD h
      obtain rfl := hx.qP
      exact .same hr (.refl _) (.fU _)
    · exact (aC h).elim
  · exact (aC h).elim
theorem EM {P : Program} {i : Nat} {a : a9} (h : (extract a i).run s = .ok v s') (hr : Rel P ρ m s.heap.get w) {x : Value} (hx : R ρ m a x) :
    Out P ρ m s w s' v ((Instr.extract x i).run P w) := by
  unfold extract at h
  split at h
  · rename_i l
    obtain ⟨hg, rfl⟩ := j7 h
    cases hx with
    | tup l c hl hrr =>
      have hi := (List.getElem?_eq_some_iff.1 hg).1
      have hc : c[i]? = some c[i] := Array.getElem?_eq_getElem (by omega)
      simp only [Instr.extract, hc, Sem.run_pure]
      exact .same hr (.refl _) (hrr i v _ hg hc)
  · exact (aC h).elim
theorem OU {P : Program} {a b : a9} (h : (min2 a b).run s = .ok v s') (hr : Rel P ρ m s.heap.get w) {x y : Value} (hx : R ρ m a x) (hy : R ρ m b y) :
    ∃ z, (Builtin.min2 x y).run P w = .ok z w ∧ R ρ m v z ∧ s' = s := by
  unfold min2 at h
  split at h
  · obtain ⟨q, n, rfl, h2⟩ := oJ h
    obtain ⟨rfl, rfl⟩ := aD h2
    obtain rfl := hx.cH
    obtain rfl := hy.cH
    exact ⟨_, rfl, .int _ _, rfl⟩
  · exact (aC h).elim
theorem OW {P : Program} {a b : a9} (h : (max2 a b).run s = .ok v s') (hr : Rel P ρ m s.heap.get w) {x y : Value} (hx : R ρ m a x) (hy : R ρ m b y) :
    ∃ z, (Builtin.max2 x y).run P w = .ok z w ∧ R ρ m v z ∧ s' = s := by
  unfold max2 at h
  split at h
  · obtain ⟨q, n, rfl, h2⟩ := oJ h
    obtain ⟨rfl, rfl⟩ := aD h2
    obtain rfl := hx.cH
    obtain rfl := hy.cH
    exact ⟨_, rfl, .int _ _, rfl⟩
  · exact (aC h).elim
inductive RV (ρ : Ren) (m : Mem) : List a9 → List Value → Prop
  | nil : RV ρ m [] []
  | cons {a : a9} {x : Value} {l : List a9} {xs : List Value} (h : R ρ m a x) (t : RV ρ m l xs) : RV ρ m (a :: l) (x :: xs)
theorem yC {P : Program} {f : a9 → a9 → M a9} {g : Value → Value → Sem Value} (hs : ∀ {s s' : St} {a b v : a9}, (f a b).run s = .ok v s' → Rel P ρ m s.heap.get w → ∀ {x y : Value}, R ρ m a x → R ρ m b y →
      ∃ z, (g x y).run P w = .ok z w ∧ R ρ m v z ∧ s' = s) :
    ∀ {l : List a9} {a v : a9} {s s' : St}, (CD f a l).run s = .ok v s' → Rel P ρ m s.heap.get w → ∀ {x : Value} {xs : List Value}, R ρ m a x → RV ρ m l xs → Out P ρ m s w s' v ((xs.foldlM g x).run P w) := by
  intro l
  induction l with
  | nil =>
    intro a v s s' h hr x xs hx hl
    obtain ⟨rfl, rfl⟩ := aD h
    cases hl
    exact .same hr (.refl _) hx
  | cons b l ih =>
    intro a v s s' h hr x xs hx hl
    cases hl with
    | cons hb hl =>
      obtain ⟨c, s1, h1, h2⟩ := M.aG h
      obtain ⟨z, k1, k2, rfl⟩ := hs h1 hr hx hb
      simp only [List.foldlM_cons, Sem.run_bind, k1, Result.andThen_ok]
      exact ih h2 hr k2 hl
end
end Go.Am
set_option linter.unusedSimpArgs false
set_option linter.unusedVariables false
namespace Go.Am
open Go
variable {E : Env}
section
variable {ρ : Ren} {m : Mem} {s s' : St} {w : World} {v : a9}
theorem D6 (n : Int) (h0 : 0 ≤ n) (h1 : n ≤ 9223372036854775807) : IntKind.i64.wrap n = n := by
 rw [IntKind.wrap_i64]; omega
theorem zN {t : TypeId} {a b : a9} (h : (makeSlice E t a b).run s = .ok v s') (ho : bT s') (hr : Rel E.P ρ m s.heap.get w) (hf : eC ρ s s') {x y : Value} (hx : R ρ m a x) (hy : R ρ m b y) :
  Out E.P ρ m s w s' v ((Instr.makeSlice t x y).run E.P w) := by
 obtain ⟨d, s1, h1, h2⟩ := M.aG h
 obtain ⟨⟨i, hi, rfl⟩, rfl⟩ := eI h1
 have hu := hi.dF (w := w)
 cases hd : i.desc with
 | slice e =>
  rw [hd] at h2 hu
  obtain ⟨j, s2, h3, h4⟩ := M.aG h2
  obtain ⟨hj, rfl⟩ := lI h3
  obtain ⟨q1, l, rfl, h5⟩ := oJ h4
  obtain ⟨q2, c, rfl, h6⟩ := oJ h5
  obtain ⟨_, s3, h7, h8, ho3, _, _⟩ := M.aL h6 ho
  obtain ⟨hb, e3⟩ := dQ h7 ho3
  obtain ⟨b1, b2, b3, b4⟩ := of_decide_eq_true hb
  obtain ⟨id, s4, h9, h10⟩ := M.aG h8
  obtain ⟨rfl, rfl⟩ := aD h10
  obtain rfl := hx.cH
  obtain rfl := hy.cH
  obtain ⟨j', hj', hjs, hjb, z, hjz, hzi⟩ := hj.DJ (w := w)
  have hz : (zeroValue e).run E.P w = .ok z w := by
   obtain ⟨z', hz', hzi'⟩ := hj.lO (w := w)
   have : (zeroValue e).run E.P w = .ok z w := by
    simp only [zeroValue, Sem.run_bind, hj', Result.andThen_ok, hjz]; rfl
   exact this
  have hzc := hj.uT (ρ := ρ) (m := m) hzi
  have hzs : z.cells.size = j.size := by rw [← hzc.len, hj.D3]
  have hreps := tM hzc c.toNat
  rw [hzs] at hreps
  have hr3 := hr.bN e3
  have hf3 := hf.bN e3
  obtain ⟨j2, hj2, hp⟩ := tV h9 hr3 hf3 hreps
  have wl : IntKind.i64.wrap l = l := D6 l b1 (by omega)
  have wc : IntKind.i64.wrap c = c := D6 c (by omega) b3
  have c1 : ¬ c < 0 := by omega
  have c2 : ¬ ((j'.bytes : Int) * c > 2 ^ 48) := by rw [hjb]; omega
  have c3 : ¬ l < 0 := by omega
  have c4 : ¬ l > c := by omega
  refine ⟨_, _, _, ?_, hp.after e3, .slx id 0 l.toNat c.toNat j.size _ (by simp [Ren.put]; rfl) (by omega)⟩
  simp only [Instr.makeSlice, Sem.run_bind, hu, Result.andThen_ok, asInt, asIntOf, Sem.run_pure, hj', wl, wc, c1, c2, c3, c4, decide_false, Bool.or_self, Bool.false_eq_true, if_false, hj.cZ, run_askRoom, or_self]
  by_cases h0 : c.toNat * j.size = 0
  ·have harr : ((Array.range (c.toNat * j.size)).map ((#[] : Array Value)[· % (#[] : Array Value).size]!)) = ((Array.range (c.toNat * j.size)).map (z.cells[· % j.size]!)) := by rw [h0]; simp
   rw [if_pos h0]
   simp only [Sem.run_bind, Result.andThen_ok, Sem.run_pure]
   rw [harr]
   simp only [lP, Sem.run_bind, Result.andThen_ok, Sem.run_pure]
  ·rw [if_neg h0]
   simp only [Sem.run_bind, Result.andThen_ok, Sem.run_pure, hz, hzs, lP]
 | _ => rw [hd] at h2; exact (aC h2).elim
theorem QL {ts : Array TypeId} {ty t : TypeId} (hts : ts[0]? = some t) {a b : a9} (h : (copy E t a b).run s = .ok v s') (ho : bT s') (hr : Rel E.P ρ m s.heap.get w) {x y : Value} (hx : R ρ m a x) (hy : R ρ m b y) :
  Out E.P ρ m s w s' v ((Builtin.copy_ ts ty #[x, y]).run E.P w) := by
 obtain ⟨d, s1, h1, h2⟩ := M.aG h
 obtain ⟨⟨i, hi, rfl⟩, rfl⟩ := eI h1
 have hu := hi.dF (w := w)
 cases hd : i.desc with
 | slice e =>
  rw [hd] at h2 hu
  obtain ⟨n1, s2, h3, h4⟩ := M.aG h2
  obtain ⟨rfl, k1⟩ := nO (P := E.P) (w := w) h3 hy
  obtain ⟨n2, s3, h5, h6⟩ := M.aG h4
  obtain ⟨rfl, k2⟩ := nO (P := E.P) (w := w) h5 hx
  obtain ⟨sz, s4, h7, h8⟩ := M.aG h6
  obtain ⟨⟨j, hj, rfl⟩, rfl⟩ := fR h7
  obtain ⟨nothing, s5, h9, h10, ho5, _, _⟩ := M.aL h8 ho
  obtain ⟨hq, e5⟩ := qS h9 ho5
  cases nothing with
  | true =>
   have hmin : min n1 n2 = 0 := Nat.eq_of_beq_eq_true hq.symm
   have fin : ∀ (cX : Option Addr) (l c : Nat), x = .slice cX l c → v = .int .i64 0 → s' = s5 → Out E.P ρ m s4 w s' v ((Builtin.copy_ ts ty #[x, y]).run E.P w) := by
    intro cX l c hxe hv hs
    subst hxe; subst hv; subst hs
    have hl : l = n2 := by
     have := k2
     simp only [Builtin.lenOf] at this
     injection this
    subst hl
    have hm0 : Nat.min n1 l = 0 := hmin
    have hfc : (Builtin.firstCells j.size 0 y).run E.P w = .ok #[] w := by
     have sl : ∀ (o : Option Addr) (l c : Nat), (Builtin.firstCells j.size 0 (.slice o l c)).run E.P w = .ok #[] w := fun o l c => by
      cases o with
      | none => rfl
      | some ad => simp only [Builtin.firstCells, Nat.zero_mul]; rfl
     unfold lenOf at h3
     split at h3
     ·cases hy; exact sl _ _ _
     ·cases hy; exact sl _ _ _
     ·cases hy <;> exact sl _ _ _
     ·cases hy <;> exact sl _ _ _
     ·cases hy
      simp [Builtin.firstCells, jM]
     ·exact (aC h3).elim
    have hout : (Builtin.copy_ ts ty #[.slice cX l c, y]).run E.P w = .ok (.int .i64 0) w := by
     cases cX with
     | none => simp only [Builtin.copy_, hts, List.getElem?_toArray, List.getElem?_cons_zero, List.getElem?_cons_succ, Sem.run_bind, hu, Result.andThen_ok, k1, hj.cZ, hm0, hfc, Sem.run_pure]; rfl
     | some ad => simp only [Builtin.copy_, hts, List.getElem?_toArray, List.getElem?_cons_zero, List.getElem?_cons_succ, Sem.run_bind, hu, Result.andThen_ok, k1, hj.cZ, hm0, hfc, Sem.run_pure]; rfl
    rw [hout]
    exact .same hr e5 (.int _ _)
   simp only at h10
   split at h10
   ·exact (aC h10).elim
   ·rename_i hns
    obtain ⟨hv, hs⟩ := aD h10
    unfold lenOf at h5
    split at h5
    ·cases hx; exact fin _ _ _ rfl hv hs
    ·cases hx; exact fin _ _ _ rfl hv hs
    ·cases hx <;> exact fin _ _ _ rfl hv hs
    ·cases hx <;> exact fin _ _ _ rfl hv hs
    ·exact absurd rfl (hns _)
    ·exact (aC h5).elim
  | false =>
   have hne : ¬ min n1 n2 = 0 := by intro hh; rw [hh] at hq; cases hq
   obtain ⟨cs, s6, h11, h12, ho6, _, _⟩ := M.aL h10 ho
   have hr5 := hr.bN e5
   obtain ⟨xa, g1, g2, g3, e6⟩ := eM h11 ho6 hr5 hy
   have hr6 := hr5.bN e6
   try simp only at h12
   split at h12
   ·rename_i id off len cap sz
    obtain ⟨hsz, h13⟩ := dM h12
    obtain ⟨_, s7, h14, h15⟩ := M.aG h13
    obtain ⟨rfl, rfl⟩ := aD h15
    have go : ∀ (r : RB) (c : Nat), ρ id = some r → x = .slice (some ⟨r.b, off, none⟩) len c → Out E.P ρ m s4 w s' (.int .i64 (min n1 n2 : Nat)) ((Builtin.copy_ ts ty #[x, y]).run E.P w) := by
     intro r c hρ hxe
     subst hxe
     have hl : len = n2 := by
      have := k2
      simp only [Builtin.lenOf] at this
      injection this
     subst hl
     obtain ⟨ad, w', q1, q2, q3⟩ := iJ h14 ho hr6 (.ptr id off r hρ) (xs := xa.toList) (by simpa using g2.len) (fun j p q hp hq => g2.at_ j p q hp (by simpa using hq))
     injection q1 with q1
     injection q1 with q1
     subst q1
     have hm0 : Nat.min n1 len = min n1 len := rfl
     refine ⟨_, w', ρ, ?_, q3.after (e5.trans e6), .int _ _⟩
     simp only [Builtin.copy_, hts, List.getElem?_toArray, List.getElem?_cons_zero, List.getElem?_cons_succ, Sem.run_bind, hu, Result.andThen_ok, k1, hj.cZ, hm0, g1, q2, Sem.run_pure]; rfl
    cases hx with
    | slx _ _ _ c _ r hρ hl => exact go r c hρ rfl
    | slw _ _ _ c _ r hρ hl hs hc => exact go r c hρ rfl
    | sl0 _ _ _ _ ad hc hn' =>
     have : n2 = 0 := by
      have := k2
      simp only [Builtin.lenOf] at this
      injection this with this
      exact this.symm
     omega
   ·exact (aC h12).elim
 | _ => rw [hd] at h2; exact (aC h2).elim
theorem lU {P : Program} {b : Blk} {id : Nat} (h : (pX b).run s = .ok id s') (hr : Rel P ρ m s.heap.get w) (hf : eC ρ s s') (o : Obj) (n sz : Nat)
  (hb : ∀ ρ', gP ρ ρ' → BR P ρ' m ⟨w.heap.size, n, sz⟩ b o) : id = s.next ∧ dV P ρ m s w (ρ.put id ⟨w.heap.size, n, sz⟩) m s' (w.alloc o) := by
 obtain ⟨h1, h2, h3⟩ := vB h
 have hρ : ρ id = none := hf id ⟨by omega, by omega⟩
 refine ⟨h1, ⟨gP.put hρ, fun j hj => ?_, fun _ _ h => h, hr.new hρ (hb _ (gP.put hρ)) h3, .alloc _ _, by omega⟩⟩
 unfold Ren.put at hj
 by_cases e : j = id
 ·exact .inr ⟨by omega, by omega⟩
 ·simp only [e, if_false] at hj
  exact .inl hj
theorem gH {P : Program} {w : World} {b : Nat} {o o' : Obj} (h : w.heap[b]? = some o) (hc : ∀ c t f, o ≠ .cells c t f) : (setObj b o').run P w = .ok () (World.upd w b o') := by
 cases o with
 | cells c t f => exact absurd rfl (hc c t f)
 | _ => simp only [setObj, Sem.run, h]; simp [World.upd, Array.set!]
theorem iB {P : Program} {w : World} {b : Nat} {o : Obj} (h : w.heap[b]? = some o) (hc : ∀ c t f, o ≠ .cells c t f) : (getObj b).run P w = .ok o w := by
 cases o with
 | cells c t f => exact absurd rfl (hc c t f)
 | _ => simp only [getObj, Sem.run, h]
theorem JX {t : TypeId} {a : a9} (h : (range E t a).run s = .ok v s') (ho : bT s') (hr : Rel E.P ρ m s.heap.get w) (hf : eC ρ s s') {x : Value} (hx : R ρ m a x) :
  Out E.P ρ m s w s' v ((Instr.range t x).run E.P w) := by
 obtain ⟨d, s1, h1, h2⟩ := M.aG h
 obtain ⟨⟨i, hi, rfl⟩, rfl⟩ := eI h1
 have hu := hi.dF (w := w)
 cases hd : i.desc with
 | string =>
  rw [hd] at h2 hu
  obtain ⟨l, rfl, h3⟩ := lK h2
  obtain rfl := hx.gR
  obtain ⟨id, s2, h4, h5⟩ := M.aG h3
  obtain ⟨rfl, rfl⟩ := aD h5
  obtain ⟨_, hp⟩ := lU h4 hr hf (.stringIter ⟨⟨l⟩⟩ 0) 0 0 (fun _ _ => .mK _ l 0)
  refine ⟨_, _, _, ?_, hp, .ptr id 0 ⟨w.heap.size, 0, 0⟩ (by simp [Ren.put])⟩
  simp only [Instr.range, Sem.run_bind, hu, Result.andThen_ok, Sem.run_pure, run_newObj_alloc]
 | map kt et =>
  rw [hd] at h2 hu
  simp only at h2
  split at h2
  ·rename_i id
   obtain ⟨b, s2, h3, h4, ho2, _, _⟩ := M.aL h2 ho
   obtain ⟨hg, e2⟩ := dE h3
   split at h4
   ·rename_i es ck
    obtain ⟨it, s3, h5, h6⟩ := M.aG h4
    obtain ⟨rfl, rfl⟩ := aD h6
    cases hx with
    | map _ r hρ =>
     obtain ⟨rb, o, q1, q2, q3, q4⟩ := hr.dL id _ hg
     rw [hρ] at q1
     injection q1 with q1
     subst q1
     cases q3 with
     | map _ _ arr hl hra =>
      have hgo : (getObj r.b).run E.P w = .ok (.map arr ck) w := iB q2 (fun _ _ _ h => by cases h)
      obtain ⟨_, hp⟩ := lU h5 (hr.bN e2) (hf.bN e2) (.mapIter (some r.b) ck #[] ck) 0 0 (fun ρ' hle => .hG _ id ck [] ck r (hle id r hρ))
      refine ⟨_, _, _, ?_, hp.after e2, .ptr it 0 ⟨w.heap.size, 0, 0⟩ (by simp [Ren.put])⟩
      simp only [Instr.range, Sem.run_bind, hu, hgo, Result.andThen_ok, Sem.run_pure, run_newObj_alloc]
   ·exact (aC h4).elim
  ·exact (aC h2).elim
 | _ => rw [hd] at h2; exact (aC h2).elim
theorem OQ {P : Program} {ty : TypeId} {a : a9} (h : (next a).run s = .ok v s') (ho : bT s') (hr : Rel P ρ m s.heap.get w) {x : Value} (hx : R ρ m a x) :
  Out P ρ m s w s' v ((Instr.next x true ty).run P w) := by
 unfold next at h
 split at h
 ·rename_i id off
  split at h
  ·rename_i h0
   obtain rfl := Nat.eq_of_beq_eq_true h0
   obtain ⟨b, s1, h1, h2, ho1, _, _⟩ := M.aL h ho
   obtain ⟨hg, e1⟩ := dE h1
   unfold V1 at h2
   split at h2
   ·rename_i l pos
    obtain ⟨more, s2, h3, h4, ho2, _, _⟩ := M.aL h2 ho
    obtain ⟨hq, e2⟩ := qS h3 ho2
    cases hx with
    | ptr _ _ r hρ =>
     obtain ⟨rb, o, q1, q2, q3, q4⟩ := hr.dL id _ hg
     rw [hρ] at q1
     injection q1 with q1
     subst q1
     cases q3 with
     | mK _ _ =>
      have hgo : (getObj r.b).run P w = .ok (.stringIter ⟨⟨l⟩⟩ pos) w := iB q2 (fun _ _ _ h => by cases h)
      have hsz : (⟨⟨l⟩⟩ : ByteArray).size = l.length := rfl
      cases more with
      | true =>
       have hlt : pos < l.length := Nat.le_of_ble_eq_true hq.symm
       obtain ⟨_, s3, h5, h6⟩ := M.aG h4
       obtain ⟨rfl, rfl⟩ := aD h6
       obtain ⟨_, hn, hset⟩ := pN h5
       have es := e1.trans e2
       refine ⟨.tuple #[.bool true, goInt pos, .int .i32 (Utf8.decode ⟨⟨l⟩⟩ pos).1], World.upd w r.b (.stringIter ⟨⟨l⟩⟩ (pos + (Utf8.decode ⟨⟨l⟩⟩ pos).2)), ρ, ?_, ⟨.refl ρ, fun _ h => .inl h, fun _ _ h => h,
        hr.upd hg hρ (.mK r l _) (fun j => by rw [hset j, es.heap]), World.pH _ _ _, by rw [hn, es.next]; exact Nat.le_refl _⟩, ?_⟩
       ·simp only [Instr.next, Sem.run_bind, hgo, Result.andThen_ok, hsz, hlt, if_true, gH q2 (fun _ _ _ h => by cases h), Sem.run_pure]
       ·refine .tup _ _ rfl (fun i v x hv hx => ?_)
        rcases i with _ | _ | _ | i
        ·simp at hv hx; subst hv; subst hx; exact .fU _
        ·simp at hv hx; subst hv; subst hx; exact .int _ _
        ·simp at hv hx; subst hv; subst hx; exact .int _ _
        ·simp at hv
      | false =>
       have hlt : ¬ pos < l.length := fun hh => by
        have : pos.blt l.length = true := Nat.ble_eq_true_of_le hh
        rw [this] at hq; cases hq
       obtain ⟨rfl, rfl⟩ := aD h4
       refine ⟨.tuple #[.bool false], w, ρ, ?_, .bN hr (e1.trans e2), ?_⟩
       ·simp only [Instr.next, Sem.run_bind, hgo, Result.andThen_ok, hsz, hlt, if_false, Sem.run_pure]
       ·refine .tup _ _ rfl (fun i v x hv hx => ?_)
        rcases i with _ | i
        ·simp at hv hx; subst hv; subst hx; exact .fU _
        ·simp at hv
   ·exact (aC h2).elim
  ·exact (aC h).elim
 ·exact (aC h).elim
end
end Go.Am
set_option linter.unusedSimpArgs false
set_option linter.unusedVariables false
namespace Go.Am
open Go
variable {E : Env}
section
variable {ρ : Ren} {m : Mem} {s s' : St} {w : World} {v : a9}
theorem IM {d : TypeDesc} (h : pE d = true) : d = .int .u8 := by
 unfold pE at h
 split at h
 ·rfl
 ·cases h
theorem KF {a : a9} (h : qC a = true) : ∃ n, a = .int .u8 n := by
 unfold qC at h
 split at h
 ·exact ⟨_, rfl⟩
 ·cases h
theorem EZ {cs : List a9} (h : cs.all qC = true) {xs : Array Value} (hx : RL ρ m cs xs) : ∃ ns : List Int, xs = (ns.map (Value.int .u8)).toArray ∧ cs.map iV = ns.map fun n => UInt8.ofNat n.toNat := by
 obtain ⟨xl⟩ := xs
 have hl := hx.len
 have ha := hx.at_
 clear hx
 simp only [List.size_toArray] at hl
 revert xl
 induction cs with
 | nil =>
  intro xl _ hl
  cases xl with
  | nil => exact ⟨[], rfl, rfl⟩
  | cons => simp at hl
 | cons c cs ih =>
  intro xl ha hl
  cases xl with
  | nil => simp at hl
  | cons x xl =>
   simp only [List.all_cons, Bool.and_eq_true] at h
   obtain ⟨n, rfl⟩ := KF h.1
   obtain ⟨ns, h1, h2⟩ := ih h.2 xl (fun i v x hv hx => ha (i + 1) v x (by simpa using hv) (by simpa using hx)) (by simpa using hl)
   have := (ha 0 (.int .u8 n) x (by simp) (by simp)).cH
   subst this
   refine ⟨n :: ns, ?_, by simp [iV, h2]⟩
   have h1' : xl = ns.map (Value.int .u8) := by simpa using h1
   rw [h1', List.map_cons]
theorem EW {src dst e : TypeId} {a : a9} (hs : E.P.underlying src = some (.slice e)) (hd : E.P.underlying dst = some .string) (h : (fT E e a).run s = .ok v s') (ho : bT s') (hr : Rel E.P ρ m s.heap.get w)
  (hns : ∀ l, a ≠ .str l) {x : Value} (hx : R ρ m a x) : Out E.P ρ m s w s' v ((Go.convert src dst x).run E.P w) := by
 obtain ⟨u, s1, h1, h2⟩ := M.aG h
 obtain ⟨⟨i, hi, rfl⟩, rfl⟩ := eI h1
 split at h2
 ·rename_i hu
  have he : E.P.underlying e = some (.int .u8) := by rw [hi.und, IM hu]
  obtain ⟨n, s2, h3, h4⟩ := M.aG h2
  obtain ⟨rfl, k1⟩ := nO (P := E.P) (w := w) h3 hx
  obtain ⟨cs, s3, h5, h6, ho3, _, _⟩ := M.aL h4 ho
  obtain ⟨xs, g1, g2, g3, e3⟩ := eM h5 ho3 hr hx
  obtain ⟨_, s4, h7, h8, ho4, _, _⟩ := M.aL h6 ho
  obtain ⟨hall, e4⟩ := dQ h7 ho4
  obtain ⟨rfl, rfl⟩ := aD h8
  obtain ⟨ns, b1, b2⟩ := EZ hall g2
  have go : ∀ (cX : Option Addr) (l c : Nat), x = .slice cX l c → Out E.P ρ m s2 w s' (.str (cs.map iV)) ((Go.convert src dst x).run E.P w) := by
   rintro cX l c rfl
   have hl : l = n := by
    have := k1
    simp only [Builtin.lenOf] at this
    injection this
   subst hl
   have fin : (Conv.bytesToString (.slice cX l c)).run E.P w = .ok (.string ⟨⟨cs.map iV⟩⟩) w := by
    cases cX with
    | none =>
     have : xs = #[] := by
      have := g1
      simp only [Builtin.firstCells] at this
      injection this with this
      exact this.symm
     have hc : cs = [] := by
      have := g2.len
      rw [‹xs = #[]›] at this
      simpa using this
     subst hc
     rfl
    | some ad =>
     have : (loadCells ad l).run E.P w = .ok (ns.map (Value.int .u8)).toArray w := by
      have := g1
      simp only [Builtin.firstCells, Nat.mul_one] at this
      rw [this, b1]
     rw [run_bytesToString w ad l c ns this, foldl_push_bytes, b2]
     have : ((ByteArray.empty).data ++ (ns.map fun n => UInt8.ofNat n.toNat).toArray) = ⟨ns.map fun n => UInt8.ofNat n.toNat⟩ := by
      have he0 : ByteArray.empty.data = #[] := rfl
      rw [he0]; simp
     rw [this]
   rw [run_convert_bytes_string w src dst e cX l c hs he hd, fin]
   exact .same hr (e3.trans e4) (.str _)
  unfold lenOf at h3
  split at h3
  ·cases hx; exact go _ _ _ rfl
  ·cases hx; exact go _ _ _ rfl
  ·cases hx <;> exact go _ _ _ rfl
  ·cases hx <;> exact go _ _ _ rfl
  ·exact absurd rfl (hns _)
  ·exact (aC h3).elim
 ·exact (aC h2).elim
theorem GQ {w : World} {b n : Nat} {c : Array Value} {t : TypeId} {fr : Nat × Nat} (h : w.heap[b]? = some (.cells c t fr)) :
  ∃ fr', (fr' = (n, n + 1) ∨ fr' = (min fr.1 n, max fr.2 (n + 1)) ∧ fr.1 ≠ fr.2) ∧ w.freeze ⟨b, n, none⟩ 1 = World.upd w b (.cells c t fr') := by
 obtain ⟨hb, he⟩ := Array.getElem?_eq_some_iff.1 h
 refine ⟨if fr.1 == fr.2 then (n, n + 1) else (min fr.1 n, max fr.2 (n + 1)), ?_, ?_⟩
 ·by_cases hf : fr.1 = fr.2
  ·simp [hf]
  ·simp [hf]
 ·unfold World.freeze World.upd
  rw [if_neg (by decide)]
  congr 1
  apply Array.ext_getElem?
  intro i
  rw [Array.getElem?_modify, Array.getElem?_setIfInBounds]
  by_cases e : b = i
  ·subst e
   obtain ⟨lo, hi⟩ := fr
   simp [hb, he]
  ·simp [e]
theorem EV {src dst : TypeId} {a : a9} (h : (convert E src dst a).run s = .ok v s') (ho : bT s') (hr : Rel E.P ρ m s.heap.get w) (hf : eC ρ s s') {x : Value} (hx : R ρ m a x) :
  Out E.P ρ m s w s' v ((Go.convert src dst x).run E.P w) := by
 obtain ⟨ds, s1, h1, h2⟩ := M.aG h
 obtain ⟨⟨i, hi, rfl⟩, rfl⟩ := eI h1
 obtain ⟨dd, s2, h3, h4⟩ := M.aG h2
 obtain ⟨⟨j, hj, rfl⟩, rfl⟩ := eI h3
 have hu := hi.dF (w := w)
 have hv := hj.dF (w := w)
 cases hd : j.desc with
 | int k =>
  rw [hd] at h4 hv
  obtain ⟨q, n, rfl, h5⟩ := oJ h4
  obtain ⟨rfl, rfl⟩ := aD h5
  obtain rfl := hx.cH
  simp only [Go.convert, Sem.run_bind, hu, hv, Result.andThen_ok, Conv.intToInt, Sem.run_pure]
  exact .same hr (.refl _) (.int _ _)
 | string =>
  rw [hd] at h4 hv
  cases hs : i.desc with
  | string =>
   rw [hs] at h4 hu
   obtain ⟨l, rfl, h5⟩ := lK h4
   obtain ⟨rfl, rfl⟩ := aD h5
   obtain rfl := hx.gR
   simp only [Go.convert, Sem.run_bind, hu, hv, Result.andThen_ok, Sem.run_pure]
   exact .same hr (.refl _) (.str _)
  | slice e =>
   rw [hs] at h4 hu
   simp only at h4
   split at h4
   ·exact (aC h4).elim
   ·rename_i hns
    exact EW (by rw [hi.und, hs]) (by rw [hj.und, hd]) h4 ho hr (fun l e => hns l e) hx
  | _ => rw [hs] at h4; exact (aC h4).elim
 | slice e =>
  rw [hd] at h4 hv
  obtain ⟨u, s3, h5, h6⟩ := M.aG h4
  obtain ⟨⟨i8, hi8, rfl⟩, rfl⟩ := eI h5
  split at h6
  ·rename_i hu8
   have he : E.P.underlying e = some (.int .u8) := by rw [hi8.und, IM hu8]
   have hrune : (underlying e).run E.P w = .ok (.int .u8) w := run_underlying he w
   cases hs : i.desc with
   | string =>
    rw [hs] at h6 hu
    obtain ⟨l, rfl, h7⟩ := lK h6
    obtain ⟨n, s4, h8, h9⟩ := M.aG h7
    obtain ⟨⟨ie, hie, rfl⟩, rfl⟩ := fR h8
    obtain ⟨h1s, h10⟩ := dM h9
    obtain ⟨id, s5, h11, h12⟩ := M.aG h10
    obtain ⟨rfl, rfl⟩ := aD h12
    obtain ⟨i2, s6, h13, h14⟩ := M.aG h11
    obtain ⟨hi2, rfl⟩ := lI h13
    obtain rfl := hx.gR
    have hszl : (⟨⟨l⟩⟩ : ByteArray).size = l.length := rfl
    have hcap : l.length ≤ grownCap w l.length 0 e := by simp only [grownCap, Question.cut]; omega
    have hrow := run_bytes_of_string (P := E.P) w src dst e ⟨⟨l⟩⟩ (by rw [hi.und, hs]) (by rw [hj.und, hd]) he
    rw [hszl] at hrow
    have hrs : (bytesRow ⟨⟨l⟩⟩ (grownCap w l.length 0 e)).size = grownCap w l.length 0 e := by
     simp only [bytesRow, Array.size_append, Array.size_map, Array.size_replicate, hszl]
     show l.length + _ = _
     omega
    rw [hrs] at hrow
    have ei : i2.size = 1 := by
     have h1 := hi2.lC
     rw [hie.lC, h1s] at h1
     injection h1 with h1
     exact h1.symm
    obtain ⟨_, hp⟩ := lU (w := { w with drawn := w.drawn + 1 }) h14 hr.drew hf (.cells (bytesRow ⟨⟨l⟩⟩ (grownCap w l.length 0 e)) e (grownCap w l.length 0 e, grownCap w l.length 0 e + 1)) (grownCap w l.length 0 e) 1 (fun ρ' hle =>
     .row _ (.l (fF l)) e _ _ (by rw [hi2.lC, ei]) hrs (by rw [hrs]; simpa [bG.size, gJ] using hcap) (fun q y hq hy => by
      simp only [bG.size, gJ] at hq
      rw [bytesRow_at _ _ _ (show q < l.length from hq)] at hy
      injection hy with hy
      subst hy
      simp only [bG.at, gB, mX, List.getElem?_eq_getElem hq, Option.map_some, Option.getD_some]
      exact .int _ _) (.inr ⟨by rw [hrs]; exact Nat.le_refl _, he⟩))
    refine ⟨_, _, _, hrow, hp.drew, .slw id 0 l.length _ 1 ⟨w.heap.size, grownCap w l.length 0 e, 1⟩ (by simp [Ren.put]) hcap rfl (by simp)⟩
   | slice e' =>
    rw [hs] at h6 hu
    simp only at h6
    split at h6
    ·rename_i hsd
     obtain rfl := Nat.eq_of_beq_eq_true hsd
     split at h6
     ·rename_i id off len cap sz
      obtain ⟨b, s4, h7, h8, ho4, _, _⟩ := M.aL h6 ho
      obtain ⟨hg, e4⟩ := dE h7
      obtain ⟨c, t, rfl, h9⟩ := iW h8
      obtain ⟨_, s5, h10, h11, ho5, _, _⟩ := M.aL h9 ho
      obtain ⟨hb, e5⟩ := dQ h10 ho5
      rw [Bool.and_eq_true] at hb
      obtain ⟨hb, hte⟩ := hb
      obtain rfl := Nat.eq_of_beq_eq_true hte
      obtain ⟨_, s6, h12, h13⟩ := M.aG h11
      obtain ⟨rfl, rfl⟩ := aD h13
      obtain ⟨b', s7, h14, h15⟩ := M.aG h12
      obtain ⟨hg7, e7⟩ := dE h14
      have hb' : b' = .row c t := by
       rw [e5.heap, e4.heap] at hg7
       rw [hg] at hg7
       injection hg7 with hg7
       exact hg7.symm
      subst hb'
      obtain ⟨_, hn, hset⟩ := pN h15
      have es := (e4.trans e5).trans e7
      have hee : e' = t := by
       have h1 : E.P.underlying src = some (.slice e') := by rw [hi.und, hs]
       rw [hj.und, hd] at h1
       injection h1 with h1
       injection h1 with h1
       exact h1.symm
      have hbeq : (src == src) = true := by simp
      have go : ∀ (r : RB) (cc : Nat), ρ id = some r → x = .slice (some ⟨r.b, off, none⟩) len cc → R ρ m (.sl id off len cap sz) x → Out E.P ρ m s3 w s' (.sl id off len cap sz) ((Go.convert src src x).run E.P w) := by
       rintro r cc hρ rfl hxx
       obtain ⟨arr, fr, q1, q2, q3, q4, q5, q6, q7⟩ := hr.row hg hρ
       obtain ⟨fr', f1, f2⟩ := GQ (n := arr.size) q1
       have hsh : w.shape? r.b = some (t, arr.size) := by unfold World.shape?; rw [q1]
       refine ⟨_, _, ρ, ?_, ⟨.refl ρ, fun _ h => .inl h, fun _ _ h => h, hr.upd hg hρ (.row r c t arr fr' q2 q3 q4 q5 ?_) (fun jj => by rw [hset jj, es.heap]), World.pH _ _ _, by rw [hn, es.next]; exact Nat.le_refl _⟩, hxx⟩
       ·simp only [Go.convert, Sem.run_bind, hv, Result.andThen_ok, hbeq, hrune, markStringish, shape, freeze, Sem.run, hsh, Sem.bind]
        rw [f2]
        rfl
       ·rcases f1 with rfl | ⟨rfl, hne⟩
        ·exact .inr ⟨Nat.le_refl _, he⟩
        ·rcases q6 with q6 | q6
         ·exact absurd q6 hne
         ·exact .inr ⟨by have := q6.1; simp only; omega, he⟩
      cases hx with
      | slx _ _ _ cc _ r hρ hl => exact go r cc hρ rfl (.slx _ _ _ cc _ r hρ hl)
      | slw _ _ _ cc _ r hρ hl hs2 hc => exact go r cc hρ rfl (.slw _ _ _ cc _ r hρ hl hs2 hc)
      | sl0 _ _ _ _ ad hc hn' =>
       exfalso
       cases cap with
       | some k =>
        have := hc k rfl
        subst this
        cases hb
       | none =>
        obtain ⟨r, hρ, hro⟩ := hn' rfl
        obtain ⟨arr, fr, q1, q2, q3, q4, _⟩ := hr.row hg hρ
        have hlt : off < c.size := Nat.le_of_ble_eq_true hb
        omega
     ·exact (aC h6).elim
    ·exact (aC h6).elim
   | _ => rw [hs] at h6; exact (aC h6).elim
  ·exact (aC h6).elim
 | _ => rw [hd] at h4; exact (aC h4).elim
end
end Go.Am
set_option linter.unusedSimpArgs false
set_option linter.unusedVariables false
namespace Go.Am
open Go
variable {E : Env}
section
variable {ρ : Ren} {m : Mem} {s s' : St} {w : World} {v : a9}
theorem u0 : ∀ (d k : Nat) {t : TypeId} {a : a9} {u : Unit} {s s' : St}, (iX E d t a).run s = .ok u s' → bT s' → ∀ {x : Value}, R ρ m a x → ∀ (w : World) (em : Bool),
    fL s s' ∧ (Instr.checkKey em (d + k) t x).run E.P w = .ok () w := by
  intro d
  induction d with
  | zero => intro k t a u s s' h; exact (aC h).elim
  | succ d ih =>
    intro k t a u s s' h ho x hx w em
    obtain ⟨dd, s1, h1, h2⟩ := M.aG h
    obtain ⟨⟨i, hi, rfl⟩, rfl⟩ := eI h1
    have hu := hi.dF (w := w)
    have ek : d + 1 + k = (d + k) + 1 := by omega
    rw [ek]
    cases hd : i.desc with
    | bool =>
      rw [hd] at h2 hu
      obtain ⟨_, rfl⟩ := aD h2
      exact ⟨.refl _, by simp only [Instr.checkKey, Sem.run_bind, hu, Result.andThen_ok, Sem.run_pure]⟩
    | int kk =>
      rw [hd] at h2 hu
      obtain ⟨_, rfl⟩ := aD h2
      exact ⟨.refl _, by simp only [Instr.checkKey, Sem.run_bind, hu, Result.andThen_ok, Sem.run_pure]⟩
    | string =>
      rw [hd] at h2 hu
      obtain ⟨_, rfl⟩ := aD h2
      exact ⟨.refl _, by simp only [Instr.checkKey, Sem.run_bind, hu, Result.andThen_ok, Sem.run_pure]⟩
    | struct fs =>
      rw [hd] at h2 hu
      obtain ⟨l, rfl, h3⟩ := kU h2
      obtain ⟨xs, rfl, hxs⟩ := hx.iH
      simp only [Instr.checkKey, Sem.run_bind, hu, Result.andThen_ok]
      rw [← Array.forIn_toList]
      clear h1 h2 h hx hu hi hd
      revert s1 s'
      induction fs.toList with
      | nil =>
        intro s' ho s1 h
        obtain ⟨_, rfl⟩ := aD h
        exact ⟨.refl _, by simp⟩
      | cons f fl ihl =>
        intro s' ho s1 h
        obtain ⟨_, s2, h5, h6, ho2, _, _⟩ := M.aL h ho
        obtain ⟨e2, r2⟩ := ihl ho _ h6
        simp only at h5
        split at h5
        · rename_i hn
          have hn' : f.name = "_" := of_decide_eq_true hn
          obtain ⟨_, rfl⟩ := aD h5
          refine ⟨e2, ?_⟩
          simp only [List.forIn_cons, hn', ne_eq, not_true_eq_false, if_false, Sem.run_bind, Sem.run_pure, Result.andThen_ok]
          simpa only [ne_eq, Sem.run_pure] using r2
        · rename_i hn
          have hn' : ¬ f.name = "_" := of_decide_eq_false hn
          obtain ⟨a1, s4, k1, k2⟩ := M.aG h5
          obtain ⟨rfl, xa, k3, k4⟩ := kP k1 hxs w
          obtain ⟨e1, r1⟩ := ih k k2 ho2 k4 w em
          refine ⟨e1.trans e2, ?_⟩
          simp only [List.forIn_cons, ne_eq, hn', not_false_eq_true, if_true, Sem.run_bind, k3, r1, Sem.run_pure, Result.andThen_ok]
          simpa only [ne_eq, Sem.run_pure] using r2
    | array n e =>
      rw [hd] at h2 hu
      obtain ⟨l, rfl, h3⟩ := kU h2
      obtain ⟨xs, rfl, hxs⟩ := hx.iH
      obtain ⟨z, s2, h5, h6⟩ := M.aG h3
      obtain ⟨⟨j, hj, rfl⟩, rfl⟩ := fR h5
      simp only [Instr.checkKey, Sem.run_bind, hu, Result.andThen_ok]
      rw [Std.Legacy.Range.forIn_eq_forIn_range']
      simp only [Std.Legacy.Range.size, Nat.sub_zero, Nat.add_sub_cancel, Nat.div_one, ← List.range_eq_range']
      clear h1 h2 h3 h5 h hx hu hi hd
      revert s2 s'
      induction List.range n with
      | nil =>
        intro s' ho s2 h
        obtain ⟨_, rfl⟩ := aD h
        exact ⟨.refl _, by simp⟩
      | cons q ql ihl =>
        intro s' ho s2 h
        obtain ⟨_, s3, h5, h6, ho2, _, _⟩ := M.aL h ho
        obtain ⟨e2, r2⟩ := ihl ho _ h6
        obtain ⟨a1, s4, k1, k2⟩ := M.aG h5
        obtain ⟨rfl, xa, k3, k4⟩ := kP k1 hxs w
        obtain ⟨e1, r1⟩ := ih k k2 ho2 k4 w em
        refine ⟨e1.trans e2, ?_⟩
        have hz : ∀ w : World, (Go.sizeOf e).run E.P w = .ok j.size w := fun w => hj.cZ
        simp only [List.forIn_cons, Sem.run_bind, hz, k3, r1, Sem.run_pure, Result.andThen_ok]
        simpa only [Sem.run_pure] using r2
    | _ => rw [hd] at h2; exact (aC h2).elim
inductive MEs (ρ : Ren) (m : Mem) : List Ent → List MapEntry → Prop
  | nil : MEs ρ m [] []
  | cons {e : Ent} {x : MapEntry} {es : List Ent} {l : List MapEntry} (h : ME ρ m e x) (t : MEs ρ m es l) : MEs ρ m (e :: es) (x :: l)
theorem MEs.of : ∀ {es : List Ent} {l : List MapEntry}, es.length = l.length → (∀ (i : Nat) e x, es[i]? = some e → l[i]? = some x → ME ρ m e x) → MEs ρ m es l
  | [], [], _, _ => .nil
  | e :: es, x :: l, hl, h => .cons (h 0 e x rfl rfl) (MEs.of (by simpa using hl) fun i a b ha hb => h (i + 1) a b (by simpa using ha) (by simpa using hb))
  | [], _ :: _, hl, _ => by simp at hl
  | _ :: _, [], hl, _ => by simp at hl
theorem MEs.len {es : List Ent} {l : List MapEntry} (h : MEs ρ m es l) : es.length = l.length := by
  induction h with
  | nil => rfl
  | cons _ _ ih => simp [ih]
theorem MEs.get {es : List Ent} {l : List MapEntry} (h : MEs ρ m es l) : ∀ (i : Nat) e x, es[i]? = some e → l[i]? = some x → ME ρ m e x := by
  induction h with
  | nil => intro i e x he; simp at he
  | cons h t ih =>
    intro i e x he hx
    cases i with
    | zero => simp at he hx; subst he; subst hx; exact h
    | succ i => exact ih i e x (by simpa using he) (by simpa using hx)
theorem MEs.app {a b : List Ent} {x y : List MapEntry} (h : MEs ρ m a x) (h' : MEs ρ m b y) : MEs ρ m (a ++ b) (x ++ y) := by
  induction h with
  | nil => exact h'
  | cons h t ih => exact .cons h ih
def vT (es : List Ent) (l : List MapEntry) (i : Nat) (r : Option (Nat × a9)) (r' : Option (Nat × Value)) : Prop :=
  (r = none ∧ r' = none) ∨ ∃ (p : Nat) (e : Ent) (x : MapEntry), es[p]? = some e ∧ l[p]? = some x ∧ r = some (i + p, e.2.1) ∧ r' = some (i + p, x.val)
theorem vT.cons {e : Ent} {x : MapEntry} {es : List Ent} {l : List MapEntry} {i : Nat} {r : Option (Nat × a9)} {r' : Option (Nat × Value)} (h : vT es l (i + 1) r r') : vT (e :: es) (x :: l) i r r' := by
  rcases h with h | ⟨p, e', x', h1, h2, h3, h4⟩
  · exact .inl h
  · refine .inr ⟨p + 1, e', x', by simpa using h1, by simpa using h2, ?_, ?_⟩
    · rw [h3, Nat.add_assoc, Nat.add_comm 1 p]
    · rw [h4, Nat.add_assoc, Nat.add_comm 1 p]
theorem yE {kt : TypeId} {k : a9} {xk : Value} (hk : R ρ m k xk) (w : World) {es : List Ent} {l : List MapEntry} (he : MEs ρ m es l) : ∀ {i : Nat} {r : Option (Nat × a9)} {s s' : St}, (m8 E kt k es i).run s = .ok r s' → bT s' →
    fL s s' ∧ ∃ r', (Instr.findAsking kt xk l i).run E.P w = .ok r' w ∧ vT es l i r r' := by
  induction he with
  | nil =>
    intro i r s s' h ho
    obtain ⟨rfl, rfl⟩ := aD h
    exact ⟨.refl _, none, rfl, .inl ⟨rfl, rfl⟩⟩
  | cons hx t ih =>
    rename_i e x es l
    intro i r s s' h ho
    obtain ⟨b, s1, h1, h2, ho1, _, _⟩ := M.aL h ho
    obtain ⟨e1, r1⟩ := vK 100 9900 h1 ho1 hk hx.key w
    have r1' : (Op.equal kt xk x.key).run E.P w = .ok b w := r1
    cases b with
    | true =>
      obtain ⟨rfl, rfl⟩ := aD h2
      refine ⟨e1, _, ?_, .inr ⟨0, e, x, rfl, rfl, rfl, rfl⟩⟩
      simp only [Instr.findAsking, Sem.run_bind, r1', Result.andThen_ok, if_true, Sem.run_pure, Nat.add_zero]
    | false =>
      obtain ⟨e2, r', k1, k2⟩ := ih h2 ho
      refine ⟨e1.trans e2, r', ?_, k2.cons⟩
      simp only [Instr.findAsking, Sem.run_bind, r1', Result.andThen_ok, Bool.false_eq_true, if_false, k1]
theorem zI {P : Program} {kt : TypeId} {d : TypeDesc} (hu : ∀ w : World, (Go.underlying kt).run P w = .ok d w) {x y : Value} {c : Bool} (h : Instr.sameNow d x y = some c) (n : Nat) (w : World) : (Op.equalIn (n + 1) kt x y).run P w = .ok c w := by
  unfold Instr.sameNow at h
  split at h
  · split at h
    · rename_i hk
      subst hk
      injection h with h
      subst h
      simp only [Op.equalIn, Sem.run_bind, hu, Result.andThen_ok, if_true, Sem.run_pure]
    · cases h
  · injection h with h
    subst h
    simp only [Op.equalIn, Sem.run_bind, hu, Result.andThen_ok, if_true, Sem.run_pure]
  · injection h with h
    subst h
    simp only [Op.equalIn, Sem.run_bind, hu, Result.andThen_ok, if_true, Sem.run_pure]
  · cases h
theorem EJ {kt : TypeId} {d : TypeDesc} (hu : ∀ w : World, (Go.underlying kt).run E.P w = .ok d w) {k : a9} {xk : Value} (hk : R ρ m k xk) (w : World) {es : List Ent} {l : List MapEntry} (he : MEs ρ m es l) : ∀ {i : Nat} {r : Option (Nat × a9)} {s s' : St}, (m8 E kt k es i).run s = .ok r s' → bT s' →
    (Instr.findNow d xk l i = none) ∨ ∃ r', Instr.findNow d xk l i = some r' ∧ vT es l i r r' := by
  induction he with
  | nil =>
    intro i r s s' h ho
    obtain ⟨rfl, rfl⟩ := aD h
    exact .inr ⟨none, rfl, .inl ⟨rfl, rfl⟩⟩
  | cons hx t ih =>
    rename_i e x es l
    intro i r s s' h ho
    obtain ⟨b, s1, h1, h2, ho1, _, _⟩ := M.aL h ho
    obtain ⟨e1, r1⟩ := vK 100 9900 h1 ho1 hk hx.key w
    have r1' : (Op.equal kt xk x.key).run E.P w = .ok b w := r1
    cases hc : Instr.sameNow d xk x.key with
    | none => exact .inl (by simp only [Instr.findNow, hc])
    | some c =>
      have : (Op.equal kt xk x.key).run E.P w = .ok c w := zI hu hc 9999 w
      rw [r1'] at this
      injection this with this
      subst this
      cases b with
      | true =>
        obtain ⟨rfl, rfl⟩ := aD h2
        exact .inr ⟨_, by simp only [Instr.findNow, hc]; rfl, .inr ⟨0, e, x, rfl, rfl, rfl, rfl⟩⟩
      | false =>
        rcases ih h2 ho with q | ⟨r', k1, k2⟩
        · exact .inl (by simp only [Instr.findNow, hc]; exact q)
        · exact .inr ⟨r', by simp only [Instr.findNow, hc]; exact k1, k2.cons⟩
theorem mP {kt : TypeId} {d : TypeDesc} (hu : ∀ w : World, (Go.underlying kt).run E.P w = .ok d w) {k : a9} {xk : Value} (hk : R ρ m k xk) (w : World) {es : List Ent} {l : List MapEntry} (he : MEs ρ m es l) {r : Option (Nat × a9)} {s s' : St} (h : (m8 E kt k es 0).run s = .ok r s') (ho : bT s') :
    fL s s' ∧ ∃ r', (Instr.findKey kt xk l).run E.P w = .ok r' w ∧ vT es l 0 r r' := by
  obtain ⟨e1, r', k1, k2⟩ := yE hk w he h ho
  refine ⟨e1, ?_⟩
  rcases EJ hu hk w he h ho with q | ⟨r2, q1, q2⟩
  · exact ⟨r', by simp only [Instr.findKey, Sem.run_bind, hu, Result.andThen_ok, q, k1], k2⟩
  · exact ⟨r2, by simp only [Instr.findKey, Sem.run_bind, hu, Result.andThen_ok, q1, Sem.run_pure], q2⟩
theorem RV.of : ∀ {l : List a9} {xs : List Value}, l.length = xs.length → (∀ (i : Nat) v x, l[i]? = some v → xs[i]? = some x → R ρ m v x) → RV ρ m l xs
  | [], [], _, _ => .nil
  | v :: l, x :: xs, hl, h => .cons (h 0 v x rfl rfl) (RV.of (by simpa using hl) fun i a b ha hb => h (i + 1) a b (by simpa using ha) (by simpa using hb))
  | [], _ :: _, hl, _ => by simp at hl
  | _ :: _, [], hl, _ => by simp at hl
theorem RL.rv {l : List a9} {c : Array Value} (h : RL ρ m l c) : RV ρ m l c.toList := RV.of (by simpa using h.len) fun i v x hv hx => h.at_ i v x hv (by simpa using hx)
theorem L8 (l : List UInt8) : ((⟨⟨l⟩⟩ : ByteArray) == ⟨⟨l⟩⟩) = true := by rw [beq_toListBytes]; simp
theorem xK {a b : a9} (h : pQ a b = true) {x y : Value} (hx : R ρ m a x) (hy : R ρ m b y) (n : Nat) : a = b ∧ x = y ∧ Instr.sameBits n x y = true := by
  unfold pQ at h
  split at h
  · rename_i k a j b
    simp only [Bool.and_eq_true, decide_eq_true_eq, beq_iff_eq] at h
    obtain ⟨rfl, rfl⟩ := h
    obtain rfl := hx.cH
    obtain rfl := hy.cH
    exact ⟨rfl, rfl, by cases n <;> simp [Instr.sameBits]⟩
  · rename_i a b
    simp only [beq_iff_eq] at h
    subst h
    obtain rfl := hx.gR
    obtain rfl := hy.gR
    exact ⟨rfl, rfl, by cases n <;> simp [Instr.sameBits, L8]⟩
  · cases h
theorem JB : ∀ {a b : List a9}, wR a b = true → ∀ {x y : List Value}, RV ρ m a x → RV ρ m b y → ∀ n, a = b ∧ x = y ∧ (x.zip y).all (fun (p : Value × Value) => Instr.sameBits n p.1 p.2) = true
  | [], [], _, x, y, hx, hy, n => by cases hx; cases hy; exact ⟨rfl, rfl, rfl⟩
  | a :: l, b :: l', h, x, y, hx, hy, n => by
    cases hx with
    | cons h1 t1 =>
      cases hy with
      | cons h2 t2 =>
        simp only [wR, Bool.and_eq_true] at h
        obtain ⟨rfl, rfl, q⟩ := xK h.1 h1 h2 n
        obtain ⟨rfl, rfl, q2⟩ := JB h.2 t1 t2 n
        exact ⟨rfl, rfl, by simp only [List.zip_cons_cons, List.all_cons, q, q2, Bool.and_self]⟩
  | [], _ :: _, h, _, _, _, _, _ => by cases h
  | _ :: _, [], h, _, _, _, _, _ => by cases h
theorem xJ {a b : a9} (h : jK a b = true) {x y : Value} (hx : R ρ m a x) (hy : R ρ m b y) (w : World) : a = b ∧ x = y ∧ (Instr.keyThatStays x y).run E.P w = .ok y w := by
  have fin : Instr.sameBits 10000 x y = true → (Instr.keyThatStays x y).run E.P w = .ok y w := fun q => by
    simp only [Instr.keyThatStays, q, if_true, Sem.run_pure]
  unfold jK at h
  split at h
  · rename_i a b
    obtain ⟨xs, rfl, hxs⟩ := hx.iH
    obtain ⟨ys, rfl, hys⟩ := hy.iH
    obtain ⟨rfl, e, q⟩ := JB h (x := xs.toList) (y := ys.toList) hxs.rv hys.rv 9999
    have e' : xs = ys := Array.toList_inj.1 e
    subst e'
    refine ⟨rfl, rfl, fin ?_⟩
    have : Instr.sameBits (9999 + 1) (.agg xs) (.agg xs) = (xs.size == xs.size && (xs.toList.zip xs.toList).all fun (x, y) => Instr.sameBits 9999 x y) := rfl
    rw [this]
    simp only [beq_self_eq_true, Bool.true_and]
    exact q
  · obtain ⟨e, e2, q⟩ := xK h hx hy 10000
    exact ⟨e, e2, fin q⟩
  · obtain ⟨e, e2, q⟩ := xK h hx hy 10000
    exact ⟨e, e2, fin q⟩
  · cases h
theorem pY {id : Nat} {es : List Ent} {ck : Nat} (hr : Rel E.P ρ m s.heap.get w) (hg : s.heap.get id = some (.map es ck)) {x : Value} (hx : R ρ m (.map id) x) :
    ∃ r arr, x = .map (some r.b) ∧ ρ id = some r ∧ (getObj r.b).run E.P w = .ok (.map arr ck) w ∧ w.heap[r.b]? = some (.map arr ck) ∧ MEs ρ m es arr.toList := by
  cases hx with
  | map _ r hρ =>
    obtain ⟨rb, o, q1, q2, q3, q4⟩ := hr.dL id _ hg
    rw [hρ] at q1
    injection q1 with q1
    subst q1
    cases q3 with
    | map _ _ arr hl hra =>
      exact ⟨r, arr, rfl, hρ, iB q2 (fun _ _ _ h => by cases h), q2, MEs.of (by simpa using hl) fun i e x he hx => hra i e x he (by simpa using hx)⟩
theorem kJ {id : Nat} {es es' : List Ent} {ck ck' : Nat} {s1 : St} {u : Unit} {r : RB} {arr arr' : Array MapEntry} (hr : Rel E.P ρ m s.heap.get w) (hg : s.heap.get id = some (.map es ck)) (hρ : ρ id = some r) (e : fL s s1)
    (h : (jW id (.map es' ck')).run s1 = .ok u s') (hw : w.heap[r.b]? = some (.map arr ck)) (hm : MEs ρ m es' arr'.toList) :
    (setObj r.b (.map arr' ck')).run E.P w = .ok () (World.upd w r.b (.map arr' ck')) ∧ dV E.P ρ m s w ρ m s' (World.upd w r.b (.map arr' ck')) := by
  obtain ⟨_, hn, hset⟩ := pN h
  refine ⟨gH hw (fun _ _ _ h => by cases h), .refl ρ, fun _ h => .inl h, fun _ _ h => h,
    hr.upd hg hρ (.map r es' ck' arr' (by simpa using hm.len) fun i e x he hx => hm.get i e x he (by simpa using hx)) (fun j => by rw [hset j, e.heap]), World.pH _ _ _, by rw [hn, e.next]; exact Nat.le_refl _⟩
theorem IF {ok is : Bool} {a : a9} {x : Value} (hx : R ρ m a x) : R ρ m (okV ok a is) (if ok then .tuple #[x, .bool is] else x) := by
  cases ok with
  | false => exact hx
  | true =>
    refine .tup _ _ rfl (fun i v y hv hy => ?_)
    rcases i with _ | _ | i
    · simp at hv hy; subst hv; subst hy; exact hx
    · simp at hv hy; subst hv; subst hy; exact .fU _
    · simp at hv
theorem DY {t : TypeId} {r : Option a9} {r' : Option Value} (h : (pZ r).run s = .ok v s') (hr : Rel E.P ρ m s.heap.get w) (hf : eC ρ s s') (hn : r = none → r' = none) :
    Out E.P ρ m s w s' v ((Instr.makeMap t r').run E.P w) := by
  unfold pZ at h
  split at h
  · rw [hn rfl]
    obtain ⟨id, s1, h1, h2⟩ := M.aG h
    obtain ⟨rfl, rfl⟩ := aD h2
    obtain ⟨_, hp⟩ := lU h1 hr hf (.map #[] 0) 0 0 (fun _ _ => .map _ [] 0 #[] rfl (fun i e x he => by simp at he))
    refine ⟨_, _, _, ?_, hp, .map id ⟨w.heap.size, 0, 0⟩ (by simp [Ren.put])⟩
    simp only [Instr.makeMap, Sem.run_bind, Result.andThen_ok, Sem.run_pure, run_newObj_alloc]
  · exact (aC h).elim
theorem tZ {d : Nat} {t : TypeId} {a : a9} {u : Unit} (h : (iX E d t a).run s = .ok u s') : ∃ i, TOk E.P t i := by
  cases d with
  | zero => exact (aC h).elim
  | succ d =>
    obtain ⟨dd, s1, h1, h2⟩ := M.aG h
    obtain ⟨⟨i, hi, rfl⟩, rfl⟩ := eI h1
    exact ⟨i, hi⟩
theorem GK {t : TypeId} {a k : a9} {ok : Bool} (h : (iS E t a k ok).run s = .ok v s') (ho : bT s') (hr : Rel E.P ρ m s.heap.get w) {x y : Value} (hx : R ρ m a x) (hy : R ρ m k y) :
    Out E.P ρ m s w s' v ((Instr.lookup t x y ok).run E.P w) := by
  obtain ⟨d, s1, h1, h2⟩ := M.aG h
  obtain ⟨⟨i, hi, rfl⟩, rfl⟩ := eI h1
  have hu := hi.dF (w := w)
  cases hd : i.desc
  case map kt et =>
    rw [hd] at h2 hu
    obtain ⟨es, s2, h3, h4, ho2, _, _⟩ := M.aL h2 ho
    obtain ⟨u, s3, h5, h6, ho3, _, _⟩ := M.aL h4 ho
    obtain ⟨rr, s4, h7, h8, ho4, _, _⟩ := M.aL h6 ho
    obtain ⟨i2, hi2⟩ := tZ h5
    have fin : ∀ (arr : Array MapEntry), fL s1 s2 → MEs ρ m es arr.toList → (Instr.checkKey arr.isEmpty 10000 kt y).run E.P w = .ok () w ∧
        ((∃ zv, (Instr.findKey kt y arr.toList).run E.P w = .ok none w ∧ (zeroValue et).run E.P w = .ok zv w ∧ Out E.P ρ m s1 w s' v (.ok (if ok then .tuple #[zv, .bool false] else zv) w)) ∨
         (∃ n zv, (Instr.findKey kt y arr.toList).run E.P w = .ok (some (n, zv)) w ∧ Out E.P ρ m s1 w s' v (.ok (if ok then .tuple #[zv, .bool true] else zv) w))) := fun arr e0 hm => by
      obtain ⟨e1, q1⟩ := u0 100 9900 h5 ho3 hy w arr.isEmpty
      obtain ⟨e2, r', q2, q3⟩ := mP (fun w => hi2.dF (w := w)) hy w hm h7 ho4
      refine ⟨q1, ?_⟩
      rcases q3 with ⟨e3, e4⟩ | ⟨p, e, z, g1, g2, e3, e4⟩
      · subst e3; subst e4
        obtain ⟨z, s5, h9, h10⟩ := M.aG h8
        obtain ⟨⟨j, hj, rfl⟩, rfl⟩ := uS h9
        obtain ⟨rfl, rfl⟩ := aD h10
        obtain ⟨zv, hz, hzi⟩ := hj.lO (w := w)
        exact .inl ⟨zv, q2, hz, .same hr (e0.trans (e1.trans e2)) (IF (hzi ▸ gV zv))⟩
      · subst e3; subst e4
        obtain ⟨rfl, rfl⟩ := aD h8
        exact .inr ⟨_, _, q2, .same hr (e0.trans (e1.trans e2)) (IF (hm.get p e z g1 g2).val)⟩
    unfold GZ at h3
    split at h3
    · obtain ⟨rfl, rfl⟩ := aD h3
      cases hx
      obtain ⟨q1, q⟩ := fin #[] (.refl _) .nil
      have q1 : (Instr.checkKey true 10000 kt y).run E.P w = .ok () w := q1
      have el : (#[] : Array MapEntry).toList = [] := rfl
      rw [el] at q
      rcases q with ⟨zv, q2, q3, q4⟩ | ⟨n, zv, q2, q4⟩
      · obtain ⟨xx, ww, rr, h9, h10, h11⟩ := q4
        refine ⟨xx, ww, rr, ?_, h10, h11⟩
        rw [← h9]
        simp only [Instr.lookup, Sem.run_bind, hu, Result.andThen_ok, Sem.run_pure, Array.isEmpty_empty, q1, q2, q3, Array.toList_empty]
      · obtain ⟨xx, ww, rr, h9, h10, h11⟩ := q4
        refine ⟨xx, ww, rr, ?_, h10, h11⟩
        rw [← h9]
        simp only [Instr.lookup, Sem.run_bind, hu, Result.andThen_ok, Sem.run_pure, Array.isEmpty_empty, q1, q2, Array.toList_empty]
    · rename_i id
      obtain ⟨b, s5, h9, h10⟩ := M.aG h3
      obtain ⟨hg, e1⟩ := dE h9
      unfold l8 at h10
      split at h10
      · rename_i es' ck
        obtain ⟨rfl, rfl⟩ := aD h10
        obtain ⟨r, arr, rfl, hρ, hgo, hw, hm⟩ := pY hr hg hx
        obtain ⟨q1, q⟩ := fin arr e1 hm
        rcases q with ⟨zv, q2, q3, q4⟩ | ⟨n, zv, q2, q4⟩
        · obtain ⟨xx, ww, rr, h9, h10, h11⟩ := q4
          refine ⟨xx, ww, rr, ?_, h10, h11⟩
          rw [← h9]
          simp only [Instr.lookup, Sem.run_bind, hu, hgo, Result.andThen_ok, Sem.run_pure, q1, q2, q3]
        · obtain ⟨xx, ww, rr, h9, h10, h11⟩ := q4
          refine ⟨xx, ww, rr, ?_, h10, h11⟩
          rw [← h9]
          simp only [Instr.lookup, Sem.run_bind, hu, hgo, Result.andThen_ok, Sem.run_pure, q1, q2]
      · exact (aC h10).elim
    · exact (aC h3).elim
  all_goals (rw [hd] at h2; exact (aC h2).elim)
theorem MEs.modify {es : List Ent} {arr : Array MapEntry} (h : MEs ρ m es arr.toList) {p : Nat} {f : Ent → Ent} {g : MapEntry → MapEntry} (hfg : ∀ e x, es[p]? = some e → arr[p]? = some x → ME ρ m (f e) (g x)) : MEs ρ m (es.modify p f) (arr.modify p g).toList := by
  have hl := h.len
  refine MEs.of (by simpa using hl) fun i e x he hx => ?_
  rw [Array.getElem?_toList, Array.getElem?_modify] at hx
  rw [List.getElem?_modify] at he
  by_cases c : p = i
  · subst c
    rw [if_pos rfl] at hx
    cases h1 : es[p]? with
    | none => rw [h1] at he; cases he
    | some e0 =>
      cases h2 : arr[p]? with
      | none => rw [h2] at hx; cases hx
      | some x0 =>
        rw [h1] at he
        rw [h2] at hx
        simp at he
        injection hx with hx
        subst he; subst hx
        exact hfg e0 x0 h1 h2
  · rw [if_neg c] at hx
    cases h1 : es[i]? with
    | none => rw [h1] at he; cases he
    | some e0 =>
      rw [h1] at he
      simp [c] at he
      subst he
      exact h.get i e0 x h1 (by rw [Array.getElem?_toList]; exact hx)
theorem MEs.as2 {es : List Ent} {l : List MapEntry} (h : MEs ρ m es l) : ∀ p, MEs ρ m (es.eraseIdx p) (l.eraseIdx p) := by
  induction h with
  | nil => intro p; exact .nil
  | cons h t ih =>
    intro p
    cases p with
    | zero => exact t
    | succ p => exact .cons h (ih p)
theorem R5 {n : Int} {es : List Ent} {l : List MapEntry} (h : MEs ρ m es l) : ∀ {i j : Nat}, tC n es i = some j → ∃ p, j = i + p ∧ l.findIdx? (fun e => (e.born : Int) == n) = some p ∧ p < l.length := by
  induction h with
  | nil => intro i j h; cases h
  | cons hx t ih =>
    rename_i e x es l
    intro i j h
    unfold tC at h
    have hb := hx.born
    split at h
    · rename_i q
      injection h with h
      exact ⟨0, by omega, by rw [List.findIdx?_cons, hb]; simp [q], by simp⟩
    · rename_i q
      obtain ⟨p, h1, h2, h3⟩ := ih h
      exact ⟨p + 1, by omega, by rw [List.findIdx?_cons, hb, q]; simp [h2], by simpa using h3⟩
theorem C0 {t : TypeId} {a k : a9} (h : (iR E t a k).run s = .ok v s') (ho : bT s') (hr : Rel E.P ρ m s.heap.get w) {x y : Value} (hx : R ρ m a x) (hy : R ρ m k y) :
    Out E.P ρ m s w s' v ((Instr.mapEntry t x y).run E.P w) := by
  obtain ⟨d, s1, h1, h2⟩ := M.aG h
  obtain ⟨⟨i, hi, rfl⟩, rfl⟩ := eI h1
  have hu := hi.dF (w := w)
  cases hd : i.desc
  case map kt et =>
    rw [hd] at h2 hu
    simp only at h2
    split at h2
    · rename_i id
      obtain ⟨b, s2, h3, h4, ho2, _, _⟩ := M.aL h2 ho
      obtain ⟨hg, e1⟩ := dE h3
      unfold l8 at h4
      split at h4
      · rename_i es ck
        obtain ⟨r, arr, rfl, hρ, hgo, hw, hm⟩ := pY hr hg hx
        obtain ⟨u, s3, h5, h6, ho3, _, _⟩ := M.aL h4 ho
        obtain ⟨rr, s4, h7, h8, ho4, _, _⟩ := M.aL h6 ho
        obtain ⟨i2, hi2⟩ := tZ h5
        obtain ⟨e2, q1⟩ := u0 100 9900 h5 ho3 hy w false
        obtain ⟨e3, r', q2, q3⟩ := mP (fun w => hi2.dF (w := w)) hy w hm h7 ho4
        have q1 : (Instr.checkKey false 10000 kt y).run E.P w = .ok () w := q1
        have es4 := e1.trans (e2.trans e3)
        rcases q3 with ⟨e4, e5⟩ | ⟨p, e, z, g1, g2, e4, e5⟩
        · subst e4; subst e5
          obtain ⟨z, s5, h9, h10⟩ := M.aG h8
          obtain ⟨⟨j, hj, rfl⟩, rfl⟩ := uS h9
          obtain ⟨_, s6, h11, h12⟩ := M.aG h10
          obtain ⟨rfl, rfl⟩ := aD h12
          obtain ⟨zv, hz, hzi⟩ := hj.lO (w := w)
          obtain ⟨k1, k2⟩ := kJ (arr' := arr.push { key := y, val := zv, born := ck }) hr hg hρ es4 h11 hw (by rw [Array.toList_push]; exact hm.app (.cons ⟨hy, hzi ▸ gV zv, rfl⟩ .nil))
          refine ⟨.tuple #[zv, goInt ck], _, ρ, ?_, k2, ?_⟩
          · simp only [Instr.mapEntry, Sem.run_bind, hu, hgo, Result.andThen_ok, Sem.run_pure, q1, q2, hz, k1]
          · refine .tup _ _ rfl (fun i v y hv hy => ?_)
            rcases i with _ | _ | i
            · simp at hv hy; subst hv; subst hy; exact hzi ▸ gV zv
            · simp at hv hy; subst hv; subst hy; exact .int _ _
            · simp at hv
        · subst e4; subst e5
          simp only [Nat.zero_add] at h8 q2
          obtain ⟨e', s5, h9, h10⟩ := M.aG h8
          obtain ⟨h9', rfl⟩ := j7 h9
          rw [g1] at h9'
          injection h9' with h9'
          subst h9'
          have hz := hm.get p e z g1 g2
          rw [Array.getElem?_toList] at g2
          split at h10
          · rename_i hsk
            obtain ⟨ek, ez, hst⟩ := xJ (E := E) hsk hz.key hy w
            obtain ⟨_, s6, h11, h12⟩ := M.aG h10
            obtain ⟨rfl, rfl⟩ := aD h12
            have hmm : MEs ρ m es (arr.modify p fun e => { e with key := y }).toList := by
              have := hm.modify (p := p) (f := fun e => e) (g := fun e => { e with key := y }) fun e0 x0 h1 h2 => by
                rw [g1] at h1; rw [g2] at h2
                injection h1 with h1; injection h2 with h2
                subst h1; subst h2
                exact ⟨ez ▸ hz.key, hz.val, hz.born⟩
              have hid : es.modify p (fun e => e) = es := by
                refine List.ext_getElem? fun i => ?_
                rw [List.getElem?_modify]
                split <;> simp
              rwa [hid] at this
            obtain ⟨k1, k2⟩ := kJ (arr' := arr.modify p fun e => { e with key := y }) hr hg hρ es4 h11 hw hmm
            refine ⟨.tuple #[z.val, goInt z.born], _, ρ, ?_, k2, ?_⟩
            · simp only [Instr.mapEntry, Sem.run_bind, hu, hgo, Result.andThen_ok, Sem.run_pure, q1, q2, g2, Option.map_some, Option.getD_some, hst, k1]
            · refine .tup _ _ rfl (fun i v y hv hy => ?_)
              rcases i with _ | _ | i
              · simp at hv hy; subst hv; subst hy; exact hz.val
              · simp at hv hy; subst hv; subst hy; rw [hz.born]; exact .int _ _
              · simp at hv
          · exact (aC h10).elim
      · exact (aC h4).elim
    · exact (aC h2).elim
  all_goals (rw [hd] at h2; exact (aC h2).elim)
def au4 (P : Program) (ρ : Ren) (m : Mem) (s : St) (w : World) (s' : St) (res : Result Unit) : Prop := ∃ w' ρ', res = .ok () w' ∧ dV P ρ m s w ρ' m s' w'
theorem yL {t : TypeId} {a st b : a9} (h : (gO a st b).run s = .ok v s') (ho : bT s') (hr : Rel E.P ρ m s.heap.get w) {x y z : Value} (hx : R ρ m a x) (hy : R ρ m st y) (hz : R ρ m b z) :
    v = undef ∧ au4 E.P ρ m s w s' ((Instr.entryStore t x y z).run E.P w) := by
  unfold gO at h
  split at h
  · rename_i id
    obtain ⟨b0, s2, h3, h4, ho2, _, _⟩ := M.aL h ho
    obtain ⟨hg, e1⟩ := dE h3
    unfold l8 at h4
    split at h4
    · rename_i es ck
      obtain ⟨r, arr, rfl, hρ, hgo, hw, hm⟩ := pY hr hg hx
      obtain ⟨q, n, rfl, h5⟩ := oJ h4
      obtain rfl := hy.cH
      obtain ⟨i, s3, h6, h7⟩ := M.aG h5
      obtain ⟨h6', rfl⟩ := j7 h6
      obtain ⟨p, hp, hfi, hlt⟩ := R5 hm h6'
      rw [Nat.zero_add] at hp
      subst hp
      obtain ⟨_, s4, h8, h9⟩ := M.aG h7
      obtain ⟨rfl, rfl⟩ := aD h9
      obtain ⟨k1, k2⟩ := kJ (arr' := arr.modify i fun e => { e with val := z }) hr hg hρ e1 h8 hw (hm.modify fun e0 x0 h1 h2 => by
        have := hm.get i e0 x0 h1 (by rw [Array.getElem?_toList]; exact h2)
        exact ⟨this.key, hz, this.born⟩)
      have hfi' : arr.findIdx? (fun e => (e.born : Int) == n) = some i := by
        rw [← hfi]
        cases arr
        simp
      refine ⟨rfl, _, ρ, ?_, k2⟩
      simp only [Instr.entryStore, Sem.run_bind, hgo, Result.andThen_ok, Sem.run_pure, asInt, asIntOf, hfi', k1]
    · exact (aC h4).elim
  · exact (aC h).elim
theorem sG {t : TypeId} {a k b : a9} (h : (kB E t a k b).run s = .ok v s') (ho : bT s') (hr : Rel E.P ρ m s.heap.get w) {x y z : Value} (hx : R ρ m a x) (hy : R ρ m k y) (hz : R ρ m b z) :
    v = undef ∧ au4 E.P ρ m s w s' ((Instr.mapUpdate t x y z).run E.P w) := by
  obtain ⟨d, s1, h1, h2⟩ := M.aG h
  obtain ⟨⟨i, hi, rfl⟩, rfl⟩ := eI h1
  have hu := hi.dF (w := w)
  cases hd : i.desc
  case map kt et =>
    rw [hd] at h2 hu
    simp only at h2
    split at h2
    · rename_i id
      obtain ⟨b, s2, h3, h4, ho2, _, _⟩ := M.aL h2 ho
      obtain ⟨hg, e1⟩ := dE h3
      unfold l8 at h4
      split at h4
      · rename_i es ck
        obtain ⟨r, arr, rfl, hρ, hgo, hw, hm⟩ := pY hr hg hx
        obtain ⟨u, s3, h5, h6, ho3, _, _⟩ := M.aL h4 ho
        obtain ⟨rr, s4, h7, h8, ho4, _, _⟩ := M.aL h6 ho
        obtain ⟨i2, hi2⟩ := tZ h5
        obtain ⟨e2, q1⟩ := u0 100 9900 h5 ho3 hy w false
        obtain ⟨e3, r', q2, q3⟩ := mP (fun w => hi2.dF (w := w)) hy w hm h7 ho4
        have q1 : (Instr.checkKey false 10000 kt y).run E.P w = .ok () w := q1
        have es4 := e1.trans (e2.trans e3)
        rcases q3 with ⟨e4, e5⟩ | ⟨p, e, z', g1, g2, e4, e5⟩
        · subst e4; subst e5
          obtain ⟨_, s6, h11, h12⟩ := M.aG h8
          obtain ⟨rfl, rfl⟩ := aD h12
          obtain ⟨k1, k2⟩ := kJ (arr' := arr.push { key := y, val := z, born := ck }) hr hg hρ es4 h11 hw (by rw [Array.toList_push]; exact hm.app (.cons ⟨hy, hz, rfl⟩ .nil))
          refine ⟨rfl, _, ρ, ?_, k2⟩
          simp only [Instr.mapUpdate, Sem.run_bind, hu, hgo, Result.andThen_ok, Sem.run_pure, q1, q2, k1]
        · subst e4; subst e5
          simp only [Nat.zero_add] at h8 q2
          obtain ⟨e', s5, h9, h10⟩ := M.aG h8
          obtain ⟨h9', rfl⟩ := j7 h9
          rw [g1] at h9'
          injection h9' with h9'
          subst h9'
          have hz' := hm.get p e z' g1 g2
          rw [Array.getElem?_toList] at g2
          split at h10
          · rename_i hsk
            obtain ⟨ek, ez, hst⟩ := xJ (E := E) hsk hz'.key hy w
            obtain ⟨_, s6, h11, h12⟩ := M.aG h10
            obtain ⟨rfl, rfl⟩ := aD h12
            obtain ⟨k1, k2⟩ := kJ (arr' := arr.modify p fun e => { e with key := y, val := z }) hr hg hρ es4 h11 hw (hm.modify fun e0 x0 h1 h2 => by
              rw [g1] at h1; rw [g2] at h2
              injection h1 with h1; injection h2 with h2
              subst h1; subst h2
              exact ⟨ez ▸ hz'.key, hz, hz'.born⟩)
            refine ⟨rfl, _, ρ, ?_, k2⟩
            simp only [Instr.mapUpdate, Sem.run_bind, hu, hgo, Result.andThen_ok, Sem.run_pure, q1, q2, g2, Option.map_some, Option.getD_some, hst, k1]
          · exact (aC h10).elim
      · exact (aC h4).elim
    · exact (aC h2).elim
  all_goals (rw [hd] at h2; exact (aC h2).elim)
theorem F8 {ts : List TypeId} {ty : TypeId} {a k : a9} (h : (uO E ts a k).run s = .ok v s') (ho : bT s') (hr : Rel E.P ρ m s.heap.get w) {x y : Value} (hx : R ρ m a x) (hy : R ρ m k y) :
    Out E.P ρ m s w s' v ((Builtin.delete_ ts.toArray ty #[x, y]).run E.P w) := by
  have tup0 : R ρ m (.tup []) (.tuple #[]) := .tup _ _ rfl (fun i v x hv => by simp at hv)
  unfold uO at h
  split at h
  · rename_i t tl
    have h0 : ((t :: tl).toArray : Array TypeId)[0]? = some t := rfl
    have hx0 : (#[x, y] : Array Value)[0]? = some x := rfl
    have hx1 : (#[x, y] : Array Value)[1]? = some y := rfl
    obtain ⟨d, s1, h1, h2⟩ := M.aG h
    obtain ⟨⟨i, hi, rfl⟩, rfl⟩ := eI h1
    have hu := hi.dF (w := w)
    cases hd : i.desc
    case map kt et =>
      rw [hd] at h2 hu
      simp only at h2
      split at h2
      · rename_i id
        obtain ⟨b, s2, h3, h4, ho2, _, _⟩ := M.aL h2 ho
        obtain ⟨hg, e1⟩ := dE h3
        unfold l8 at h4
        split at h4
        · rename_i es ck
          obtain ⟨r, arr, rfl, hρ, hgo, hw, hm⟩ := pY hr hg hx
          obtain ⟨u, s3, h5, h6, ho3, _, _⟩ := M.aL h4 ho
          obtain ⟨rr, s4, h7, h8, ho4, _, _⟩ := M.aL h6 ho
          obtain ⟨i2, hi2⟩ := tZ h5
          obtain ⟨e2, q1⟩ := u0 100 9900 h5 ho3 hy w arr.isEmpty
          obtain ⟨e3, r', q2, q3⟩ := mP (fun w => hi2.dF (w := w)) hy w hm h7 ho4
          have q1 : (Instr.checkKey arr.isEmpty 10000 kt y).run E.P w = .ok () w := q1
          have es4 := e1.trans (e2.trans e3)
          rcases q3 with ⟨e4, e5⟩ | ⟨p, e, z', g1, g2, e4, e5⟩
          · subst e4; subst e5
            obtain ⟨_, s6, h11, h12⟩ := M.aG h8
            obtain ⟨rfl, rfl⟩ := aD h12
            obtain ⟨k1, k2⟩ := kJ (arr' := arr) hr hg hρ es4 h11 hw hm
            refine ⟨.tuple #[], _, ρ, ?_, k2, tup0⟩
            simp only [Builtin.delete_, h0, hx0, hx1, Sem.run_bind, hu, hgo, Result.andThen_ok, Sem.run_pure, q1, q2, k1]
          · subst e4; subst e5
            simp only [Nat.zero_add] at h8 q2
            obtain ⟨_, s6, h11, h12⟩ := M.aG h8
            obtain ⟨rfl, rfl⟩ := aD h12
            have hlt : p < arr.size := by
              have := (List.getElem?_eq_some_iff.1 g2).1
              simpa using this
            obtain ⟨k1, k2⟩ := kJ (arr' := arr.eraseIdxIfInBounds p) hr hg hρ es4 h11 hw (by
              have : (arr.eraseIdxIfInBounds p).toList = arr.toList.eraseIdx p := by
                unfold Array.eraseIdxIfInBounds
                rw [dif_pos hlt]
                simp
              rw [this]
              exact hm.as2 p)
            refine ⟨.tuple #[], _, ρ, ?_, k2, tup0⟩
            simp only [Builtin.delete_, h0, hx0, hx1, Sem.run_bind, hu, hgo, Result.andThen_ok, Sem.run_pure, q1, q2, k1]
        · exact (aC h4).elim
      · exact (aC h2).elim
    all_goals (rw [hd] at h2; exact (aC h2).elim)
  · exact (aC h).elim
theorem KX {a : a9} (h : (CJ a).run s = .ok v s') (ho : bT s') (hr : Rel E.P ρ m s.heap.get w) {x : Value} (hx : R ρ m a x) :
    Out E.P ρ m s w s' v ((Instr.entry x).run E.P w) := by
  unfold CJ at h
  split at h
  · rename_i id off
    split at h
    · rename_i h0
      obtain rfl := Nat.eq_of_beq_eq_true h0
      obtain ⟨b, s1, h1, h2, ho1, _, _⟩ := M.aL h ho
      obtain ⟨hg, e1⟩ := dE h1
      split at h2
      · rename_i mm since seen gL
        obtain ⟨c, s2, h3, h4, ho2, _, _⟩ := M.aL h2 ho
        obtain ⟨hg2, e2⟩ := dE h3
        split at h4
        · rename_i es ck
          cases hx with
          | ptr _ _ r hρ =>
            obtain ⟨rb, o, q1, q2, q3, q4⟩ := hr.dL id _ hg
            rw [hρ] at q1
            injection q1 with q1
            subst q1
            cases q3 with
            | hG _ _ _ _ r2 hρ2 =>
              have hgo : (getObj r.b).run E.P w = .ok (.mapIter (some r2.b) since seen.toArray gL) w := iB q2 (fun _ _ _ h => by cases h)
              rw [e1.heap] at hg2
              obtain ⟨r3, arr, hxe, hρ3, hgo2, hw, hm⟩ := pY hr hg2 (.map mm r2 hρ2)
              injection hxe with hxe
              injection hxe with hxe
              split at h4
              · rename_i hck
                have hck := Nat.eq_of_beq_eq_true hck
                subst hck
                obtain ⟨st, s3, h5, h6⟩ := M.aG h4
                obtain ⟨hst, rfl⟩ := j7 h5
                obtain ⟨e, s4, h7, h8⟩ := M.aG h6
                obtain ⟨hfe, rfl⟩ := j7 h7
                obtain ⟨rfl, rfl⟩ := aD h8
                have find : ∀ {es : List Ent} {l : List MapEntry}, MEs ρ m es l → es.find? (fun e => e.2.2.beq st) = some e → ∃ z, l.find? (fun e => e.born == st) = some z ∧ ME ρ m e z := fun h => by
                  induction h with
                  | nil => intro q; cases q
                  | @cons e0 x0 es0 l0 hh t ih =>
                    intro q
                    rw [List.find?_cons] at q
                    have hb := hh.born
                    split at q
                    · rename_i c
                      injection q with q
                      subst q
                      refine ⟨_, ?_, hh⟩
                      rw [List.find?_cons, hb]
                      simp [Nat.eq_of_beq_eq_true c]
                    · rename_i c
                      obtain ⟨z, k1, k2⟩ := ih q
                      refine ⟨z, ?_, k2⟩
                      rw [List.find?_cons, hb]
                      have c2 : ¬ e0.2.2 = st := fun w => by rw [w, Nat.beq_refl] at c; cases c
                      simp only [beq_eq_false_iff_ne.2 c2]
                      exact k1
                obtain ⟨z, k1, k2⟩ := find hm hfe
                have k1' : arr.find? (fun e => e.born == st) = some z := by
                  rw [← Array.find?_toList]; exact k1
                have hback : seen.toArray.back? = some st := by
                  rw [← hst]; simp
                refine ⟨.tuple #[z.key, z.val], w, ρ, ?_, .bN hr (e1.trans e2), ?_⟩
                · rw [hxe] at hgo
                  simp only [Instr.entry, Sem.run_bind, hgo, hgo2, Result.andThen_ok, hback, bne_self_eq_false, Bool.false_eq_true, if_false, k1', Sem.run_pure]
                · refine .tup _ _ rfl (fun i v y hv hy => ?_)
                  rcases i with _ | _ | i
                  · simp at hv hy; subst hv; subst hy; exact k2.key
                  · simp at hv hy; subst hv; subst hy; exact k2.val
                  · simp at hv
              · exact (aC h4).elim
        · exact (aC h4).elim
      · exact (aC h2).elim
    · exact (aC h).elim
  · exact (aC h).elim
end
end Go.Am
