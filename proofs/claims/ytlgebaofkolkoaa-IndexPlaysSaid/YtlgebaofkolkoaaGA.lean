/- What the statement reaches, gone through; and the abstract machine that goes through it. -/
import GoSem.Dispatch
import GoSem.Machine.Frame
import Derived.RangeFuncIn
import Derived.OrdersIn
import Derived.RangeFuncLeaves
import Derived.TacticsIn
import Derived.Laws.Sem
import Derived.Laws.World
import Derived.Laws.Cells
import Derived.Laws.Entries
import Derived.Laws.NewFold
import Derived.Lib.AppendZerosOnto
import Derived.Laws.BytesArg
import Derived.Laws.IdiomStrings
import Derived.Laws.StructEq
set_option linter.unusedSimpArgs false
set_option linter.unusedVariables false
namespace Go.Am
open Go
inductive aA where
 | bool (b : Bool)
 | gG (b : Bool)
 | int (k : IntKind) (n : Int)
 | str (l : List UInt8)
 | fC | aT | nI | dL | wL
 | emp
 | ptr (id off : Nat)
 | sl (id off len : Nat) (cap : Option Nat) (sz : Nat)
 | ip (f : Nat → aA) (n off : Nat)
 | isl (f : Nat → aA) (sz off len : Nat)
 | fn (f : Fn) (first cap : List aA)
 | agg (l : List aA)
 | tup (l : List aA)
 | map (id : Nat)
 | aB
instance : Inhabited aA := ⟨.aB⟩
mutual
def ofValue : Value → aA
 | .bool b => .bool b
 | .int k n => .int k n
 | .string s => .str s.data.toList
 | .pointer none => .fC
 | .slice none 0 0 => .aT
 | .map none => .nI
 | .nilFunc => .dL
 | .nilIface => .wL
 | .agg c => .agg (eB c)
 | .tuple c => .tup (eB c)
 | _ => .aB
def eB : Array Value → List aA
 | ⟨l⟩ => ofList l
def ofList : List Value → List aA
 | [] => []
 | v :: l => ofValue v :: ofList l
end
def aA.cells : aA → List aA
 | .agg l => l
 | v => [v]
def undef : aA := .tup []
def nth : List aA → Nat → aA → aA
 | [], _, d => d
 | a :: _, 0, _ => a
 | _ :: l, n + 1, d => nth l n d
def put : List aA → Nat → aA → List aA
 | [], _, _ => []
 | _ :: l, 0, v => v :: l
 | a :: l, n + 1, v => a :: put l n v
inductive bH where
 | l (xs : List aA)
 | f (n : Nat) (g : Nat → aA)
def bH.size : bH → Nat
 | .l xs => xs.length
 | .f n _ => n
def bH.at : bH → Nat → aA
 | .l xs, i => nth xs i .aB
 | .f _ g, i => g i
def bH.set (c : bH) (i : Nat) (v : aA) : bH :=
 match c with
 | .l xs => .l (put xs i v)
 | .f n g => .f n fun k => match k.beq i with | true => v | false => g k
def cellsOf (g : Nat → aA) (off : Nat) : Nat → List aA
 | 0 => []
 | n + 1 => g off :: cellsOf g (off + 1) n
def bH.sub (c : bH) (off n : Nat) : List aA :=
 match c with
 | .l xs => (xs.drop off).take n
 | .f _ g => cellsOf g off n
structure lU where
 state : LoopState
 pending : Option Code
 fn : FuncId
 tmps : List aA
 params : List Tmp
 assign : Code
 body : Code
inductive Blk where
 | row (c : bH) (elem : TypeId)
 | loop (l : lU)
 | pJ (s : List UInt8) (pos : Nat)
 | map (es : List (aA × aA × Nat)) (ck : Nat)
 | sU (m since : Nat) (seen : List Nat) (gR : Nat)
inductive Tr where
 | nil
 | fn (g : Nat → Option Blk)
 | node (l : Tr) (v : Option Blk) (r : Tr)
def Tr.get : Tr → Nat → Option Blk
 | .nil, _ => none
 | .fn g, n => g n
 | .node l v r, n => match n with
  | 0 => v
  | n + 1 => match (n % 2).beq 0 with
   | true => l.get (n / 2)
   | false => r.get (n / 2)
def Tr.left : Tr → Tr
 | .nil => .nil
 | .fn g => .fn fun n => g (2 * n + 1)
 | .node l _ _ => l
def Tr.val : Tr → Option Blk
 | .nil => none
 | .fn g => g 0
 | .node _ v _ => v
def Tr.right : Tr → Tr
 | .nil => .nil
 | .fn g => .fn fun n => g (2 * n + 2)
 | .node _ _ r => r
def Tr.set : (fuel : Nat) → Tr → Nat → Option Blk → Tr
 | 0, t, _, _ => t
 | k + 1, t, n, b => match n with
   | 0 => .node t.left b t.right
   | n + 1 => match (n % 2).beq 0 with
    | true => .node (Tr.set k t.left (n / 2) b) t.val t.right
    | false => .node t.left t.val (Tr.set k t.right (n / 2) b)
theorem Tr.uW (t : Tr) (n : Nat) : t.left.get n = t.get (2 * n + 1) := by
 cases t with
 | nil => simp [Tr.left, Tr.get]
 | fn g => simp [Tr.left, Tr.get]
 | node l v r =>
  simp only [Tr.left, Tr.get]
  have h1 : 2 * n % 2 = 0 := by omega
  have h2 : 2 * n / 2 = n := by omega
  rw [h1, h2]
theorem Tr.sL (t : Tr) (n : Nat) : t.right.get n = t.get (2 * n + 2) := by
 cases t with
 | nil => simp [Tr.right, Tr.get]
 | fn g => simp [Tr.right, Tr.get]
 | node l v r =>
  simp only [Tr.right, Tr.get]
  have h1 : (2 * n + 1) % 2 = 1 := by omega
  have h2 : (2 * n + 1) / 2 = n := by omega
  rw [h1, h2]
theorem Tr.AX (t : Tr) : t.val = t.get 0 := by cases t <;> rfl
theorem Tr.MD : ∀ (k : Nat) (t : Tr) (n : Nat) (b : Option Blk), n + 1 < 2 ^ k → ∀ j, (Tr.set k t n b).get j = if j = n then b else t.get j := by
 intro k
 induction k with
 | zero => intro t n b h; simp at h
 | succ k ih =>
  intro t n b h j
  cases n with
  | zero =>
   simp only [Tr.set]
   cases j with
   | zero => simp [Tr.get]
   | succ j =>
    simp only [Tr.get]
    rcases Nat.mod_two_eq_zero_or_one j with hj | hj
    ·rw [hj]; simp only [Nat.beq_refl]
     rw [Tr.uW]
     have : 2 * (j / 2) + 1 = j + 1 := by omega
     rw [this]; simp
    ·rw [hj]; simp only [show (1 : Nat).beq 0 = false from rfl]
     rw [Tr.sL]
     have : 2 * (j / 2) + 2 = j + 1 := by omega
     rw [this]; simp
  | succ n =>
   simp only [Tr.set]
   rcases Nat.mod_two_eq_zero_or_one n with hn | hn
   ·rw [hn]; simp only [Nat.beq_refl]
    have ih' := ih t.left (n / 2) b (by rw [Nat.pow_succ] at h; omega)
    cases j with
    | zero => simp [Tr.get, Tr.AX]
    | succ j =>
     simp only [Tr.get]
     rcases Nat.mod_two_eq_zero_or_one j with hj | hj
     ·rw [hj]; simp only [Nat.beq_refl]
      rw [ih' (j / 2), Tr.uW]
      have : 2 * (j / 2) + 1 = j + 1 := by omega
      rw [this]
      by_cases e : j = n
      ·subst e; simp
      ·have : j / 2 ≠ n / 2 := by omega
       simp [e, this]
     ·rw [hj]; simp only [show (1 : Nat).beq 0 = false from rfl]
      rw [Tr.sL]
      have : 2 * (j / 2) + 2 = j + 1 := by omega
      rw [this]
      have : j ≠ n := by omega
      simp [this]
   ·rw [hn]; simp only [show (1 : Nat).beq 0 = false from rfl]
    have ih' := ih t.right (n / 2) b (by rw [Nat.pow_succ] at h; omega)
    cases j with
    | zero => simp [Tr.get, Tr.AX]
    | succ j =>
     simp only [Tr.get]
     rcases Nat.mod_two_eq_zero_or_one j with hj | hj
     ·rw [hj]; simp only [Nat.beq_refl]
      rw [Tr.uW]
      have : 2 * (j / 2) + 1 = j + 1 := by omega
      rw [this]
      have : j ≠ n := by omega
      simp [this]
     ·rw [hj]; simp only [show (1 : Nat).beq 0 = false from rfl]
      rw [ih' (j / 2), Tr.sL]
      have : 2 * (j / 2) + 2 = j + 1 := by omega
      rw [this]
      by_cases e : j = n
      ·subst e; simp
      ·have : j / 2 ≠ n / 2 := by omega
       simp [e, this]
structure St where
 heap : Tr
 next : Nat
 rds : List Nat
 wrs : List Nat
 obs : List Bool
 orc : Option (List Bool)
inductive Res (α : Type) where
 | ok (a : α) (s : St)
 | bJ (why : String)
 | ask (b : Bool)
def New (s s' : St) (id : Nat) : Prop := s.next ≤ id ∧ id < s'.next
structure Did {α : Type} (f : St → Res α) (s : St) (a : α) (s' : St) (r w : List Nat) (o : List Bool) : Prop where
 next : s.next ≤ s'.next
 rds : s'.rds = r ++ s.rds
 wrs : s'.wrs = w ++ s.wrs
 obs : s'.obs = o ++ s.obs
 bM : ∀ id, id ∉ w → ¬ New s s' id → s'.heap.get id = s.heap.get id
 dJ : ∀ id, id ∈ w → s.heap.get id ≠ none ∨ New s s' id
 rR : ∀ t : St, t.next = s.next → t.orc = s.orc → (∀ id, id ∈ r ∨ id ∈ w ∨ New s s' id → t.heap.get id = s.heap.get id) →
  ∃ t', f t = .ok a t' ∧ t'.next = s'.next ∧ t'.orc = s'.orc ∧ t'.rds = r ++ t.rds ∧ t'.wrs = w ++ t.wrs ∧ t'.obs = o ++ t.obs ∧
   (∀ id, id ∈ w ∨ New s s' id → t'.heap.get id = s'.heap.get id) ∧ (∀ id, id ∉ w → ¬ New s s' id → t'.heap.get id = t.heap.get id)
 orc : s.orc = none → s'.orc = none
 uF : ∀ id, id ∈ r → s.heap.get id ≠ none ∨ New s s' id
def Loc {α : Type} (f : St → Res α) : Prop := ∀ s a s', f s = .ok a s' → ∃ r w o, Did f s a s' r w o
structure M (α : Type) where
 run : St → Res α
 loc : Loc run
theorem IH {α : Type} (a : α) : Loc (fun s => Res.ok a s) := by
 intro s a' s' h
 injection h with h1 h2
 subst h1; subst h2
 exact ⟨[], [], [], ⟨Nat.le_refl _, rfl, rfl, rfl, fun _ _ _ => rfl, fun _ h => (by cases h), fun t hn ho hg =>
  ⟨t, rfl, hn, ho, rfl, rfl, rfl, fun id hid => hg id (.inr hid), fun _ _ _ => rfl⟩, id, fun _ h => (by cases h)⟩⟩
def M.pure {α : Type} (a : α) : M α := ⟨fun s => .ok a s, IH a⟩
theorem II {α : Type} {f : St → Res α} (h : ∀ s a s', f s ≠ .ok a s') : Loc f := fun s a s' e => absurd e (h s a s')
def bJ {α : Type} (why : String) : M α := ⟨fun _ => .bJ why, II (fun _ _ _ h => by cases h)⟩
def lG {α β : Type} (m : St → Res α) (f : α → M β) (s : St) : Res β :=
 match m s with
 | .ok a s => (f a).run s
 | .bJ w => .bJ w
 | .ask b => .ask b
theorem IK {α β : Type} (m : M α) (f : α → M β) : Loc (lG m.run f) := by
 intro s b s2 h
 unfold lG at h
 cases hm : m.run s with
 | bJ w => rw [hm] at h; cases h
 | ask b => rw [hm] at h; cases h
 | ok a s1 =>
  rw [hm] at h
  simp only at h
  obtain ⟨r1, w1, o1, d1⟩ := m.loc s a s1 hm
  obtain ⟨r2, w2, o2, d2⟩ := (f a).loc s1 b s2 h
  have n1 := d1.next
  have n2 := d2.next
  have fresh1 : ∀ id, New s s1 id → New s s2 id := fun id hid => ⟨hid.1, by have := hid.2; omega⟩
  have fresh2 : ∀ id, New s1 s2 id → New s s2 id := fun id hid => ⟨by have := hid.1; omega, hid.2⟩
  have split : ∀ id, New s s2 id → New s s1 id ∨ New s1 s2 id := fun id hid => by
   by_cases hlt : id < s1.next
   ·exact .inl ⟨hid.1, hlt⟩
   ·exact .inr ⟨by omega, hid.2⟩
  refine ⟨r2 ++ r1, w2 ++ w1, o2 ++ o1, ⟨by omega, by rw [d2.rds, d1.rds, List.append_assoc], by rw [d2.wrs, d1.wrs, List.append_assoc], by rw [d2.obs, d1.obs, List.append_assoc], ?_, ?_, ?_, fun h => d2.orc (d1.orc h), ?_⟩⟩
  ·intro id hw hn
   simp only [List.mem_append, not_or] at hw
   rw [d2.bM id hw.1 (fun x => hn (fresh2 id x)), d1.bM id hw.2 (fun x => hn (fresh1 id x))]
  ·intro id hw
   simp only [List.mem_append] at hw
   by_cases h1 : New s s1 id
   ·exact .inr (fresh1 id h1)
   by_cases hw1 : id ∈ w1
   ·rcases d1.dJ id hw1 with h | h
    ·exact .inl h
    ·exact .inr (fresh1 id h)
   rcases hw with hw | hw
   ·rcases d2.dJ id hw with h | h
    ·rw [d1.bM id hw1 h1] at h
     exact .inl h
    ·exact .inr (fresh2 id h)
   ·exact absurd hw hw1
  ·intro t hn ho hg
   obtain ⟨t1, e1, hn1, ho1, hr1, hw1, hob1, hg1, hk1⟩ := d1.rR t hn ho (fun id hid => hg id (by
    rcases hid with h | h | h
    ·exact .inl (List.mem_append.2 (.inr h))
    ·exact .inr (.inl (List.mem_append.2 (.inr h)))
    ·exact .inr (.inr (fresh1 id h))))
   obtain ⟨t2, e2, hn2, ho2, hr2, hw2, hob2, hg2, hk2⟩ := d2.rR t1 hn1 ho1 (fun id hid => by
    by_cases hc : id ∈ w1 ∨ New s s1 id
    ·exact hg1 id hc
    ·simp only [not_or] at hc
     rw [hk1 id hc.1 hc.2, d1.bM id hc.1 hc.2]
     refine hg id ?_
     rcases hid with h | h | h
     ·exact .inl (List.mem_append.2 (.inl h))
     ·exact .inr (.inl (List.mem_append.2 (.inl h)))
     ·exact .inr (.inr (fresh2 id h)))
   refine ⟨t2, ?_, hn2, ho2, by rw [hr2, hr1, List.append_assoc], by rw [hw2, hw1, List.append_assoc], by rw [hob2, hob1, List.append_assoc], ?_, ?_⟩
   ·unfold lG; rw [e1]; exact e2
   ·intro id hid
    by_cases hc : id ∈ w2 ∨ New s1 s2 id
    ·exact hg2 id hc
    ·simp only [not_or] at hc
     rw [hk2 id hc.1 hc.2, d2.bM id hc.1 hc.2]
     refine hg1 id ?_
     rcases hid with h | h
     ·rcases List.mem_append.1 h with h | h
      ·exact absurd h hc.1
      ·exact .inl h
     ·rcases split id h with h | h
      ·exact .inr h
      ·exact absurd h hc.2
   ·intro id hw hnw
    simp only [List.mem_append, not_or] at hw
    rw [hk2 id hw.1 (fun x => hnw (fresh2 id x)), hk1 id hw.2 (fun x => hnw (fresh1 id x))]
  ·intro id hr
   simp only [List.mem_append] at hr
   by_cases h1 : New s s1 id
   ·exact .inr (fresh1 id h1)
   rcases hr with hr | hr
   ·by_cases hw1 : id ∈ w1
    ·rcases d1.dJ id hw1 with h | h
     ·exact .inl h
     ·exact .inr (fresh1 id h)
    ·rcases d2.uF id hr with h | h
     ·rw [d1.bM id hw1 h1] at h
      exact .inl h
     ·exact .inr (fresh2 id h)
   ·rcases d1.uF id hr with h | h
    ·exact .inl h
    ·exact .inr (fresh1 id h)
def M.bind {α β : Type} (m : M α) (f : α → M β) : M β := ⟨lG m.run f, IK m f⟩
theorem M.aK {α β : Type} {m : M α} {f : α → M β} {s : St} {b : β} {s2 : St} (h : (m.bind f).run s = .ok b s2) :
  ∃ a s1, m.run s = .ok a s1 ∧ (f a).run s1 = .ok b s2 := by
 simp only [M.bind, lG] at h
 cases hm : m.run s with
 | bJ w => rw [hm] at h; cases h
 | ask b => rw [hm] at h; cases h
 | ok a s1 => rw [hm] at h; exact ⟨a, s1, rfl, h⟩
def Tr.put (t : Tr) (n : Nat) (b : Option Blk) : Tr := Tr.set (Nat.log2 (n + 1) + 1) t n b
theorem Tr.mR (t : Tr) (n : Nat) (b : Option Blk) (j : Nat) : (t.put n b).get j = if j = n then b else t.get j := Tr.MD _ t n b Nat.lt_log2_self j
def z7 (id : Nat) (s : St) : Res Blk :=
 match s.heap.get id with
 | some b => .ok b { s with rds := id :: s.rds }
 | none => .bJ "no such block"
theorem M7 (id : Nat) : Loc (z7 id) := by
 intro s a s' h
 unfold z7 at h
 cases hg : s.heap.get id with
 | none => rw [hg] at h; cases h
 | some b =>
  rw [hg] at h
  injection h with h1 h2
  subst h1; subst h2
  refine ⟨[id], [], [], ⟨Nat.le_refl _, rfl, rfl, rfl, fun _ _ _ => rfl, fun _ h => (by cases h), fun t hn ho hg' => ?_, fun h => h, fun id' hr => ?_⟩⟩
  ·refine ⟨{ t with rds := id :: t.rds }, ?_, hn, ho, rfl, rfl, rfl, fun id' h => ?_, fun _ _ _ => rfl⟩
   ·unfold z7; rw [hg' id (.inl (by simp)), hg]
   ·exact hg' id' (.inr h)
  ·have : id' = id := by simpa using hr
   subst this
   left; rw [hg]; simp
def fX (id : Nat) : M Blk := ⟨z7 id, M7 id⟩
def sY (id : Nat) (b : Option Blk) (s : St) : Res Unit :=
 match s.heap.get id with
 | none => .bJ "no such block to set"
 | some _ => .ok () { s with heap := s.heap.put id b, wrs := id :: s.wrs }
theorem tP (id : Nat) (b : Option Blk) : Loc (sY id b) := by
 intro s a s' h
 unfold sY at h
 cases hg : s.heap.get id with
 | none => rw [hg] at h; cases h
 | some b0 =>
  rw [hg] at h
  injection h with _ h2
  subst h2
  have hset := fun (t : Tr) => Tr.mR t id b
  refine ⟨[], [id], [], ⟨Nat.le_refl _, rfl, rfl, rfl, ?_, ?_, ?_, fun h => h, fun _ h => (by cases h)⟩⟩
  ·intro id' hw _
   have : id' ≠ id := by simpa using hw
   simp only [hset, this, if_false]
  ·intro id' hw
   have : id' = id := by simpa using hw
   subst this
   left; rw [hg]; simp
  ·intro t hn ho hg'
   refine ⟨{ t with heap := t.heap.put id b, wrs := id :: t.wrs }, ?_, hn, ho, rfl, rfl, rfl, ?_, ?_⟩
   ·unfold sY; rw [hg' id (.inr (.inl (by simp))), hg]
   ·intro id' h
    rcases h with h | h
    ·have : id' = id := by simpa using h
     simp only [hset, this, if_true]
    ·exact absurd h (by simp only [New]; omega)
   ·intro id' hw _
    have : id' ≠ id := by simpa using hw
    simp only [hset, this, if_false]
def jK (id : Nat) (b : Blk) : M Unit := ⟨sY id (some b), tP id (some b)⟩
def CT (id : Nat) : M Unit := ⟨sY id none, tP id none⟩
def I0 (b : Blk) (s : St) : Res Nat := .ok s.next { s with heap := s.heap.put s.next (some b), next := s.next + 1 }
theorem M4 (b : Blk) : Loc (I0 b) := by
 intro s a s' h
 unfold I0 at h
 injection h with h1 h2
 subst h1; subst h2
 have hset := fun (t : Tr) => Tr.mR t s.next (some b)
 refine ⟨[], [], [], ⟨by simp, rfl, rfl, rfl, ?_, fun _ h => (by cases h), ?_, fun h => h, fun _ h => (by cases h)⟩⟩
 ·intro id' _ hn
  have : id' ≠ s.next := fun e => hn ⟨by omega, by simp; omega⟩
  simp only [hset, this, if_false]
 ·intro t hn ho hg'
  refine ⟨{ t with heap := t.heap.put s.next (some b), next := s.next + 1 }, ?_, rfl, ho, rfl, rfl, rfl, ?_, ?_⟩
  ·unfold I0; rw [hn]
  ·intro id' h
   rcases h with h | h
   ·cases h
   ·have : id' = s.next := by have := h.1; have := h.2; simp only at *; omega
    simp only [hset, this, if_true]
  ·intro id' _ hn'
   have : id' ≠ s.next := fun e => hn' ⟨by omega, by simp; omega⟩
   simp only [hset, this, if_false]
def qC (b : Blk) : M Nat := ⟨I0 b, M4 b⟩
def obF (b : Bool) (s : St) : Res Unit :=
 match b with
 | true => .ok () s
 | false => .ok () { s with obs := false :: s.obs }
theorem PV (b : Bool) : Loc (obF b) := by
 intro s a s' h
 cases b with
 | true =>
  injection h with h1 h2
  subst h2
  exact ⟨[], [], [], ⟨Nat.le_refl _, rfl, rfl, rfl, fun _ _ _ => rfl, fun _ h => (by cases h), fun t hn ho hg =>
   ⟨t, rfl, hn, ho, rfl, rfl, rfl, fun id hid => hg id (.inr hid), fun _ _ _ => rfl⟩, fun h => h, fun _ h => (by cases h)⟩⟩
 | false =>
  injection h with h1 h2
  subst h2
  exact ⟨[], [], [false], ⟨Nat.le_refl _, rfl, rfl, rfl, fun _ _ _ => rfl, fun _ h => (by cases h), fun t hn ho hg =>
   ⟨{ t with obs := false :: t.obs }, rfl, hn, ho, rfl, rfl, rfl, fun id hid => hg id (.inr hid), fun _ _ _ => rfl⟩, fun h => h, fun _ h => (by cases h)⟩⟩
def ob (b : Bool) : M Unit := ⟨obF b, PV b⟩
def BM (b : Bool) (s : St) : Res Bool :=
 match s.orc with
 | none => .ok b s
 | some [] => .ask b
 | some (o :: os) => .ok o { s with orc := some os, obs := (b == o) :: s.obs }
theorem M8 (b : Bool) : Loc (BM b) := by
 intro s a s' h
 unfold BM at h
 cases ho : s.orc with
 | none =>
  rw [ho] at h
  injection h with h1 h2
  subst h1; subst h2
  exact ⟨[], [], [], ⟨Nat.le_refl _, rfl, rfl, rfl, fun _ _ _ => rfl, fun _ h => (by cases h), fun t hn ho' hg =>
   ⟨t, by unfold BM; rw [ho', ho], hn, ho', rfl, rfl, rfl, fun id hid => hg id (.inr hid), fun _ _ _ => rfl⟩, fun h => h, fun _ h => (by cases h)⟩⟩
 | some l =>
  rw [ho] at h
  cases l with
  | nil => cases h
  | cons x xs =>
   injection h with h1 h2
   subst h1; subst h2
   exact ⟨[], [], [b == x], ⟨Nat.le_refl _, rfl, rfl, rfl, fun _ _ _ => rfl, fun _ h => (by cases h), fun t hn ho' hg =>
    ⟨{ t with orc := some xs, obs := (b == x) :: t.obs }, by unfold BM; rw [ho', ho], hn, rfl, rfl, rfl, rfl, fun id hid => hg id (.inr hid), fun _ _ _ => rfl⟩, (fun h => by rw [ho] at h; cases h), fun _ h => (by cases h)⟩⟩
def ask (b : Bool) : M Bool := ⟨BM b, M8 b⟩
def branch : aA → M Bool
 | .gG b => M.pure b
 | .bool b => ask b
 | _ => bJ "bool expected"
end Go.Am
set_option linter.unusedSimpArgs false
set_option linter.unusedVariables false
namespace Go.Am
open Go
structure RB where
 b : Nat
 n : Nat
 s : Nat
abbrev Ren := Nat → Option RB
abbrev Mem := Nat → Option Obj
def Mem.cell (m : Mem) (b off : Nat) : Option Value :=
 match m b with
 | some (.cells c _ _) => c[off]?
 | _ => none
inductive RF (ρ : Ren) : Fn → Fn → Prop
 | func (f : FuncId) : RF ρ (.func f) (.func f)
 | yield (id : Nat) (r : RB) (h : ρ id = some r) : RF ρ (.yield id) (.yield r.b)
inductive R (ρ : Ren) (m : Mem) : aA → Value → Prop
 | bool (b : Bool) : R ρ m (.bool b) (.bool b)
 | gG (b : Bool) : R ρ m (.gG b) (.bool b)
 | int (k : IntKind) (n : Int) : R ρ m (.int k n) (.int k n)
 | str (l : List UInt8) : R ρ m (.str l) (.string ⟨⟨l⟩⟩)
 | fC : R ρ m .fC (.pointer none)
 | aT : R ρ m .aT (.slice none 0 0)
 | nI : R ρ m .nI (.map none)
 | dL : R ρ m .dL .nilFunc
 | wL : R ρ m .wL .nilIface
 | emp (a : Option Addr) : R ρ m .emp (.slice a 0 0)
 | ptr (id off : Nat) (r : RB) (h : ρ id = some r) : R ρ m (.ptr id off) (.pointer (some ⟨r.b, off, none⟩))
 | slx (id off len c sz : Nat) (r : RB) (h : ρ id = some r) (hl : len ≤ c) : R ρ m (.sl id off len (some c) sz) (.slice (some ⟨r.b, off, none⟩) len c)
 | slw (id off len c sz : Nat) (r : RB) (h : ρ id = some r) (hl : len ≤ c) (hs : r.s = sz) (hc : off + c * sz = r.n) : R ρ m (.sl id off len none sz) (.slice (some ⟨r.b, off, none⟩) len c)
 | sl0 (id off sz : Nat) (cap : Option Nat) (a : Addr) (hc : ∀ k, cap = some k → k = 0) (hn : cap = none → ∃ r, ρ id = some r ∧ r.n ≤ off) : R ρ m (.sl id off 0 cap sz) (.slice (some a) 0 0)
 | ip (f : Nat → aA) (n off b o : Nat) (g : Nat → Value) (hg : ∀ j, j < n → m.cell b (o + j) = some (g j)) (hr : ∀ j, j < n → R ρ m (f j) (g j)) : R ρ m (.ip f n off) (.pointer (some ⟨b, o + off, none⟩))
 | isl (f : Nat → aA) (sz off len b o c : Nat) (g : Nat → Value) (hg : ∀ j, j < off + len * sz → m.cell b (o + j) = some (g j)) (hr : ∀ j, j < off + len * sz → R ρ m (f j) (g j)) (hl : len ≤ c) : R ρ m (.isl f sz off len) (.slice (some ⟨b, o + off, none⟩) len c)
 | sH (f : Nat → aA) (sz off c : Nat) (a : Addr) : R ρ m (.isl f sz off 0) (.slice (some a) 0 c)
 | fn (f f' : Fn) (x y : List aA) (x' y' : Array Value) (hf : RF ρ f f') (hx : x.length = x'.size) (hy : y.length = y'.size)
   (rx : ∀ (i : Nat) v u, x[i]? = some v → x'[i]? = some u → R ρ m v u) (ry : ∀ (i : Nat) v u, y[i]? = some v → y'[i]? = some u → R ρ m v u) : R ρ m (.fn f x y) (.func f' x' y')
 | agg (l : List aA) (c : Array Value) (hl : l.length = c.size) (hr : ∀ (i : Nat) v x, l[i]? = some v → c[i]? = some x → R ρ m v x) : R ρ m (.agg l) (.agg c)
 | tup (l : List aA) (c : Array Value) (hl : l.length = c.size) (hr : ∀ (i : Nat) v x, l[i]? = some v → c[i]? = some x → R ρ m v x) : R ρ m (.tup l) (.tuple c)
 | map (id : Nat) (r : RB) (h : ρ id = some r) : R ρ m (.map id) (.map (some r.b))
 | aB (x : Value) : R ρ m .aB x
structure RL (ρ : Ren) (m : Mem) (l : List aA) (c : Array Value) : Prop where
 len : l.length = c.size
 at_ : ∀ (i : Nat) v x, l[i]? = some v → c[i]? = some x → R ρ m v x
structure MLe (m m' : Mem) : Prop where
 le : ∀ b c t f, m b = some (.cells c t f) → m' b = some (.cells c t f)
theorem Mem.ED {m m' : Mem} (h : MLe m m') {b off : Nat} {v : Value} (hc : m.cell b off = some v) : m'.cell b off = some v := by
 unfold Mem.cell at *
 cases hb : m b with
 | none => rw [hb] at hc; cases hc
 | some o =>
  cases o with
  | cells c t f => rw [hb] at hc; rw [h.le b c t f hb]; exact hc
  | _ => rw [hb] at hc; cases hc
def gU (ρ ρ' : Ren) : Prop := ∀ id r, ρ id = some r → ρ' id = some r
theorem RF.mono {ρ ρ' : Ren} (h : gU ρ ρ') {f f' : Fn} (hf : RF ρ f f') : RF ρ' f f' := by
 cases hf with
 | func f => exact .func f
 | yield id r hr => exact .yield id r (h id r hr)
theorem R.mono {ρ ρ' : Ren} {m m' : Mem} (h : gU ρ ρ') (hm : MLe m m') {v : aA} {x : Value} (hr : R ρ m v x) : R ρ' m' v x := by
 induction hr with
 | bool b => exact .bool b
 | gG b => exact .gG b
 | int k n => exact .int k n
 | str l => exact .str l
 | fC => exact .fC
 | aT => exact .aT
 | nI => exact .nI
 | dL => exact .dL
 | wL => exact .wL
 | emp a => exact .emp a
 | ptr id off r hid => exact .ptr id off r (h id r hid)
 | slx id off len c sz r hid hl => exact .slx id off len c sz r (h id r hid) hl
 | slw id off len c sz r hid hl hs hc => exact .slw id off len c sz r (h id r hid) hl hs hc
 | sl0 id off sz cap a hc hn => exact .sl0 id off sz cap a hc (fun e => by obtain ⟨r, h1, h2⟩ := hn e; exact ⟨r, h id r h1, h2⟩)
 | ip f n off b o g hg hr ih => exact .ip f n off b o g (fun j hj => Mem.ED hm (hg j hj)) ih
 | isl f sz off len b o c g hg hr hl ih => exact .isl f sz off len b o c g (fun j hj => Mem.ED hm (hg j hj)) ih hl
 | sH f sz off c a => exact .sH f sz off c a
 | fn f f' x y x' y' hf hx hy rx ry ihx ihy => exact .fn f f' x y x' y' (hf.mono h) hx hy ihx ihy
 | agg l c hl hr ih => exact .agg l c hl ih
 | tup l c hl hr ih => exact .tup l c hl ih
 | map id r hid => exact .map id r (h id r hid)
 | aB x => exact .aB x
theorem RL.mono {ρ ρ' : Ren} {m m' : Mem} (h : gU ρ ρ') (hm : MLe m m') {l : List aA} {c : Array Value} (hr : RL ρ m l c) : RL ρ' m' l c :=
 ⟨hr.len, fun i v x hv hx => (hr.at_ i v x hv hx).mono h hm⟩
def N9 (P : Program) (t : TypeId) (fr : Nat × Nat) (n : Nat) : Prop := fr.1 = fr.2 ∨ (n ≤ fr.1 ∧ P.underlying t = some (.int .u8))
theorem N9.out {P : Program} {t : TypeId} {fr : Nat × Nat} {n : Nat} (h : N9 P t fr n) : ∀ j, j < n → ¬ (fr.1 ≤ j ∧ j < fr.2) := fun j hj ⟨a, b⟩ => by
 rcases h with h | h <;> omega
structure ME (ρ : Ren) (m : Mem) (e : aA × aA × Nat) (x : MapEntry) : Prop where
 key : R ρ m e.1 x.key
 val : R ρ m e.2.1 x.val
 born : x.born = e.2.2
inductive BR (P : Program) (ρ : Ren) (m : Mem) : RB → Blk → Obj → Prop
 | row (rb : RB) (c : bH) (elem : TypeId) (arr : Array Value) (fr : Nat × Nat) (hs : (P.info? elem).map (·.size) = some rb.s) (hn : arr.size = rb.n) (hc : c.size ≤ arr.size)
   (hr : ∀ j x, j < c.size → arr[j]? = some x → R ρ m (c.at j) x) (hf : N9 P elem fr arr.size) : BR P ρ m rb (.row c elem) (.cells arr elem fr)
 | loop (rb : RB) (l : lU) (L : Loop) (h1 : L.state = l.state) (h2 : L.pending = l.pending) (h4 : RL ρ m l.tmps L.tmps) (h5 : L.params.toList = l.params)
   (h6 : L.assign = l.assign) (h7 : L.body = l.body) : BR P ρ m rb (.loop l) (.loop L)
 | pJ (rb : RB) (s : List UInt8) (pos : Nat) : BR P ρ m rb (.pJ s pos) (.stringIter ⟨⟨s⟩⟩ pos)
 | map (rb : RB) (es : List (aA × aA × Nat)) (ck : Nat) (arr : Array MapEntry) (hl : es.length = arr.size) (hr : ∀ (i : Nat) e x, es[i]? = some e → arr[i]? = some x → ME ρ m e x) : BR P ρ m rb (.map es ck) (.map arr ck)
 | sU (rb : RB) (id since : Nat) (seen : List Nat) (gR : Nat) (r : RB) (h : ρ id = some r) : BR P ρ m rb (.sU id since seen gR) (.mapIter (some r.b) since seen.toArray gR)
theorem BR.mono {P : Program} {ρ ρ' : Ren} {m m' : Mem} (h : gU ρ ρ') (hm : MLe m m') {rb : RB} {b : Blk} {o : Obj} (hb : BR P ρ m rb b o) : BR P ρ' m' rb b o := by
 cases hb with
 | row c elem arr fr hs hn hc hr hf => exact .row _ c elem arr fr hs hn hc (fun j x hj hx => (hr j x hj hx).mono h hm) hf
 | loop l L h1 h2 h4 h5 h6 h7 => exact .loop _ l L h1 h2 (h4.mono h hm) h5 h6 h7
 | pJ s pos => exact .pJ _ s pos
 | map es ck arr hl hr => exact .map _ es ck arr hl (fun i e x he hx => ⟨(hr i e x he hx).key.mono h hm, (hr i e x he hx).val.mono h hm, (hr i e x he hx).born⟩)
 | sU id since seen gR r hid => exact .sU _ id since seen gR r (h id r hid)
structure Rel (P : Program) (ρ : Ren) (m : Mem) (h : Nat → Option Blk) (w : World) : Prop where
 dJ : ∀ id b, h id = some b → ∃ rb o, ρ id = some rb ∧ w.heap[rb.b]? = some o ∧ BR P ρ m rb b o ∧ m rb.b = none
 inj : ∀ i j b c r r', h i = some b → h j = some c → ρ i = some r → ρ j = some r' → r.b = r'.b → i = j
 mem : ∀ b o, m b = some o → w.heap[b]? = some o
theorem Rel.congr {P : Program} {ρ : Ren} {m : Mem} {h h' : Nat → Option Blk} {w : World} (hr : Rel P ρ m h w) (e : ∀ id, h' id = h id) : Rel P ρ m h' w := by
 have : h' = h := funext e
 rw [this]; exact hr
structure Fr (w w' : World) : Prop where
 os : w'.os = w.os
 tape : w'.tape = w.tape
 output : w'.output = w.output
 size : w.heap.size ≤ w'.heap.size
theorem Fr.refl (w : World) : Fr w w := ⟨rfl, rfl, rfl, Nat.le_refl _⟩
theorem Fr.trans {a b c : World} (h : Fr a b) (h' : Fr b c) : Fr a c := ⟨h'.os.trans h.os, h'.tape.trans h.tape, h'.output.trans h.output, Nat.le_trans h.size h'.size⟩
structure eW (P : Program) (ρ : Ren) (m : Mem) (s : St) (w : World) (ρ' : Ren) (m' : Mem) (s' : St) (w' : World) : Prop where
 ren : gU ρ ρ'
 new : ∀ id, ρ' id ≠ none → ρ id ≠ none ∨ New s s' id
 mem : ∀ b o, m b = some o → m' b = some o
 rel : Rel P ρ' m' s'.heap.get w'
 fr : Fr w w'
 next : s.next ≤ s'.next
theorem eW.mle {P : Program} {ρ ρ' : Ren} {m m' : Mem} {s s' : St} {w w' : World} (h : eW P ρ m s w ρ' m' s' w') : MLe m m' := ⟨fun b c t f hb => h.mem b _ hb⟩
def eX (ρ : Ren) (s s' : St) : Prop := ∀ id, New s s' id → ρ id = none
theorem eW.trans {P : Program} {ρ ρ1 ρ2 : Ren} {m m1 m2 : Mem} {s s1 s2 : St} {w w1 w2 : World} (a : eW P ρ m s w ρ1 m1 s1 w1) (b : eW P ρ1 m1 s1 w1 ρ2 m2 s2 w2) : eW P ρ m s w ρ2 m2 s2 w2 where
 ren := fun id r h => b.ren id r (a.ren id r h)
 new := fun id h => by
  have := a.next
  have := b.next
  rcases b.new id h with h | h
  ·rcases a.new id h with h | h
   ·exact .inl h
   ·exact .inr ⟨h.1, by have := h.2; omega⟩
  ·exact .inr ⟨by have := h.1; omega, h.2⟩
 mem := fun x o h => b.mem x o (a.mem x o h)
 rel := b.rel
 fr := a.fr.trans b.fr
 next := Nat.le_trans a.next b.next
theorem eX.fst {ρ : Ren} {s s1 s2 : St} (h : eX ρ s s2) (hn : s1.next ≤ s2.next) : eX ρ s s1 := fun id hid => h id ⟨hid.1, by have := hid.2; omega⟩
theorem eX.snd {P : Program} {ρ ρ1 : Ren} {m m1 : Mem} {s s1 s2 : St} {w w1 : World} (h : eX ρ s s2) (a : eW P ρ m s w ρ1 m1 s1 w1) : eX ρ1 s1 s2 := fun id hid => by
 have hs := a.next
 have h0 := h id ⟨by have := hid.1; omega, hid.2⟩
 cases e : ρ1 id with
 | none => rfl
 | some r =>
  rcases a.new id (by rw [e]; simp) with h1 | h1
  ·exact absurd h0 h1
  ·have := h1.2; have := hid.1; omega
theorem eW.same {P : Program} {ρ : Ren} {m : Mem} {s s' : St} {w : World} (h : Rel P ρ m s.heap.get w) (hh : ∀ id, s'.heap.get id = s.heap.get id) (hn : s'.next = s.next) : eW P ρ m s w ρ m s' w where
 ren := fun _ _ h => h
 new := fun _ h => .inl h
 mem := fun _ _ h => h
 rel := h.congr hh
 fr := .refl w
 next := by omega
def bU (s : St) : Prop := s.obs.all id = true
theorem bU.of {s s' : St} {o : List Bool} (h : bU s') (e : s'.obs = o ++ s.obs) : bU s := by
 unfold bU at *; rw [e, List.all_append, Bool.and_eq_true] at h; exact h.2
def BS (P : Program) (f : FuncId) (args : Array Value) (w : World) (K : Value → World → Prop) : Prop :=
 ((callFunc f args).run P w = .ok (.enter f args) w ∧ Calls P f args w fun e w' => ∃ v, e = .returned v ∧ K v w') ∨
 ∃ v w', (callFunc f args).run P w = .ok (.value v) w' ∧ K v w'
def kM (P : Program) (f : FuncId) (act : List aA → M aA) : Prop :=
 ∀ args s v s', (act args).run s = .ok v s' → bU s' → ∀ ρ m w xs, Rel P ρ m s.heap.get w → eX ρ s s' → RL ρ m args xs →
  BS P f xs w fun x w' => ∃ ρ', eW P ρ m s w ρ' m s' w' ∧ R ρ' m v x
theorem M.aJ {α β : Type} {mm : M α} {f : α → M β} {s : St} {b : β} {s2 : St} (h : (mm.bind f).run s = .ok b s2) (ho : bU s2) :
  ∃ a s1, mm.run s = .ok a s1 ∧ (f a).run s1 = .ok b s2 ∧ bU s1 ∧ s.next ≤ s1.next ∧ s1.next ≤ s2.next := by
 obtain ⟨a, s1, h1, h2⟩ := M.aK h
 obtain ⟨_, _, _, d1⟩ := mm.loc _ _ _ h1
 obtain ⟨_, _, _, d2⟩ := (f a).loc _ _ _ h2
 exact ⟨a, s1, h1, h2, ho.of d2.obs, d1.next, d2.next⟩
end Go.Am
set_option linter.unusedSimpArgs false
set_option linter.unusedVariables false
namespace Go.Am
open Go
def eI : aA → Bool
  | .aB => true
  | _ => false
structure TI where
  desc : TypeDesc
  size : Nat
  bytes : Nat
  zero : aA
structure TOk (P : Program) (t : Nat) (i : TI) : Prop where
  CU : ∃ j z, P.info? t = some j ∧ j.size = i.size ∧ j.bytes = i.bytes ∧ j.zero = some z ∧ ofValue z = i.zero
  zR : i.zero.cells.length = i.size
  zj : eI i.zero = false
  und : P.underlying t = some i.desc
structure TE (P : Program) where
  t : Nat
  i : TI
  ok : TOk P t i
structure FI where
  body : Code
  ntmps : Nat
  results : List ResultVar
  aO : Option (List Bool) := none
structure FOk (P : Program) (f : Nat) (i : FI) : Prop where
  fn : ∃ fn, P.funcs[f]? = some fn ∧ fn.body = some i.body ∧ fn.ntmps = i.ntmps ∧ fn.results.toList = i.results
  call : ∀ args w, (callFunc f args).run P w = .ok (.enter f args) w
structure FE (P : Program) where
  f : Nat
  i : FI
  ok : FOk P f i
inductive BT (α : Type) where
  | leaf (a : α)
  | node (m : Nat) (l r : BT α)
def BT.find {α : Type} : BT α → Nat → α
  | .leaf a, _ => a
  | .node m l r, n => match n.blt m with
    | true => l.find n
    | false => r.find n
structure rU (P : Program) where
  f : Nat
  act : List aA → M aA
  ok : kM P f act
structure QE (P : Program) where
  t : Nat
  Q9 : P.stoodInHeld t = false
  guard : P.eqGuardType P.depth t = false
abbrev Fw (o : Option Nat) : Fence := { Fence.wide with round := o }
def Mem.with (m : Mem) (D : List Nat) : Mem := fun b => if b ∈ D then some (.deferred (some [])) else m b
abbrev mk (r : Nat) : Deferred := { target := .collected r, args := #[] }
structure pQ (m : Mem) (D : List Nat) : Prop where
  DY : D.Nodup
  none : ∀ r ∈ D, m r = none
inductive gH where
  | normal | ret
  | exit (id : Nat)
inductive RX : gH → Exit → Prop
  | normal : RX .normal .normal
  | ret : RX .ret .ret
  | exit (id : Nat) : RX (.exit id) (.exit id)
inductive RN (ρ : Ren) : Option Nat → Option Nat → Prop
  | none : RN ρ none none
  | some (id : Nat) (r : RB) (h : ρ id = some r) : RN ρ (some id) (some r.b)
structure lT (P : Program) (ρ : Ren) (m : Mem) (s : St) (w : World) (o : Option Nat) (a : Act) (e : gH) (tm' : List aA) (s' : St) (e' : Exit) (a' : Act) (w' : World) (ρ' : Ren) (D : List Nat) : Prop where
  post : eW P ρ m s w ρ' (m.with D) s' w'
  tmps : RL ρ' (m.with D) tm' a'.tmps
  ex : RX e e'
  defers : a'.defers = D.map mk ++ a.defers
  uP : pQ m D
  inRound : o ≠ none → D = []
def rT (P : Program) (rnd : Option Nat) (c : Code) (act : List aA → M (gH × List aA)) : Prop :=
  ∀ tm e tm' s s', (act tm).run s = .ok (e, tm') s' → bU s' → ∀ ρ m w a o n (Q : Exit → Act → World → Prop), Rel P ρ m s.heap.get w → eX ρ s s' → RL ρ m tm a.tmps → RN ρ rnd o →
    (∀ e' a' w' ρ' D, lT P ρ m s w o a e tm' s' e' a' w' ρ' D → Q e' a' w') → c.wpIn (Fw o) n P Q a w
structure rV (P : Program) where
  fn : Nat
  id : Nat
  c : Code
  act : List aA → M (gH × List aA)
  ok : ∀ rnd, rT P rnd c act
open Classical in
noncomputable def jZ {P : Program} : List (rV P) → FuncId → Nat → Code → Option (List aA → M (gH × List aA))
  | [], _, _, _ => none
  | h :: l, fn, id, c => match h.fn.beq fn && h.id.beq id with
    | true => if h.c = c then some h.act else jZ l fn id c
    | false => jZ l fn id c
def nV {P : Program} (l : List (rV P)) (fn : FuncId) (id : Nat) : Bool := l.all fun h => !(h.fn.beq fn && h.id.beq id)
theorem qI {P : Program} : ∀ {l : List (rV P)} {fn : FuncId} {id : Nat} {c : Code}, nV l fn id = true → jZ l fn id c = none
  | [], _, _, _, _ => rfl
  | h :: l, fn, id, c, q => by
    simp only [nV, List.all_cons, Bool.and_eq_true] at q
    unfold jZ
    cases e : h.fn.beq fn && h.id.beq id with
    | true => rw [e] at q; cases q.1
    | false => exact qI q.2
theorem rP {P : Program} : ∀ {l : List (rV P)} {fn : FuncId} {id : Nat} {c : Code} {act : List aA → M (gH × List aA)}, jZ l fn id c = some act → ∀ rnd, rT P rnd c act
  | h :: l, fn, id, c, act, q, rnd => by
    unfold jZ at q
    split at q
    · split at q
      · rename_i e
        injection q with q
        rw [← q, ← e]; exact h.ok rnd
      · exact rP q rnd
    · exact rP q rnd
structure Env where
  P : Program
  DZ : P.follows .mixedOrders = true
  types : BT (TE P)
  funcs : BT (FE P)
  uU : List (rU P)
  eqs : List (QE P)
  yG : List (rV P) := []
  qK : List (rV P) := []
variable (E : Env)
def ti (t : TypeId) : M TI :=
  match (E.types.find t).t.beq t with
  | true => M.pure (E.types.find t).i
  | false => bJ "no such type"
def und (t : TypeId) : M TypeDesc := (ti E t).bind fun i => M.pure i.desc
def sizeOf (t : TypeId) : M Nat := (ti E t).bind fun i => M.pure i.size
def cF (t : TypeId) : M aA := (ti E t).bind fun i => M.pure i.zero
def eR : TypeDesc → Bool
  | .struct _ => true
  | .array _ _ => true
  | _ => false
def cW {α : Type} (k : bH → TypeId → M α) : Blk → M α
  | .row c t => k c t
  | _ => bJ "row expected"
def aZ (v : aA) (n : Nat) : M (List aA) :=
  match v with
  | .ptr id off => (fX id).bind (cW fun c _ => (ob ((off + n).ble c.size)).bind fun _ => M.pure (c.sub off n))
  | .ip f m off => (ob ((off + n).ble m)).bind fun _ => M.pure (cellsOf f off n)
  | _ => bJ "address expected"
def eJ : List aA → M aA
  | [v] => M.pure v
  | _ => bJ "one cell expected"
def load (t : TypeId) (a : aA) : M aA :=
  (ti E t).bind fun i => match eR i.desc with
    | true => (aZ a i.size).bind fun cs => M.pure (.agg cs)
    | false => (aZ a 1).bind eJ
def kV (c : bH) (off : Nat) : List aA → bH
  | [] => c
  | v :: l => kV (c.set off v) (off + 1) l
def bK : aA → Bool
  | .agg _ => false
  | .tup _ => false
  | .aB => false
  | _ => true
def dS (a : aA) (vs : List aA) : M Unit :=
  match a with
  | .ptr id off => (fX id).bind (cW fun c t => (ob ((off + vs.length).ble c.size)).bind fun _ =>
      match vs.all bK with
      | true => jK id (.row (kV c off vs) t)
      | false => bJ "a value of more cells than one")
  | _ => bJ "an address that may be written expected"
def store (t : TypeId) (a v : aA) : M Unit :=
  (ti E t).bind fun i => match v.cells.length.beq i.size with
    | true => dS a v.cells
    | false => bJ "store: size"
def newRow (t : TypeId) (cs : List aA) : M Nat := (ti E t).bind fun _ => qC (.row (.l cs) t)
def alloc (t : TypeId) (v : aA) : M aA := match eI v with
  | true => bJ "box: unknown value"
  | false => (newRow E t v.cells).bind fun id => M.pure (.ptr id 0)
def fill (place : Nat → Option (Nat × Nat)) (cells : List aA) : List (Nat × aA) → Option (List aA)
  | [] => some cells
  | (i, v) :: bM => match place i with
    | none => none
    | some (off, size) => match (eI v).not && v.cells.length.beq size && (off + v.cells.length).ble cells.length with
      | true => fill place (cells.take off ++ v.cells ++ cells.drop (off + v.cells.length)) bM
      | false => none
def tH : List Field → M (List (Nat × Nat))
  | [] => M.pure []
  | f :: l => (sizeOf E f.type).bind fun n => (tH l).bind fun r => M.pure ((f.offset, n) :: r)
def eE {α : Type} (why : String) : Option α → M α
  | some a => M.pure a
  | none => bJ why
def build (t : TypeId) (parts : List (Nat × aA)) : M aA :=
  (ti E t).bind fun i => match i.desc with
    | .struct fs => (tH E fs.toList).bind fun ps => (eE "build" (fill (ps[·]?) i.zero.cells parts)).bind fun cs => M.pure (.agg cs)
    | .array _ e => (sizeOf E e).bind fun n => (eE "build" (fill (fun i => some (i * n, n)) i.zero.cells parts)).bind fun cs => M.pure (.agg cs)
    | _ => bJ "build: type"
def gI (z : List aA) : Nat → List aA
  | 0 => []
  | n + 1 => z ++ gI z n
def buildSlice (t : TypeId) (len : Nat) (parts : List (Nat × aA)) : M aA :=
  (und E t).bind fun d => match d with
    | .slice e => (ti E e).bind fun i => match (len * i.size).ble 16777216 with
      | true => (eE "buildSlice" (fill (fun k => some (k * i.size, i.size)) (gI i.zero.cells len) parts)).bind fun cs =>
          (newRow E e cs).bind fun id => M.pure (.sl id 0 len (some len) i.size)
      | false => bJ "buildSlice: too long"
    | _ => bJ "buildSlice: type"
def aM (n : Nat) : aA → M aA
  | .ptr id off => M.pure (.ptr id (off + n))
  | .ip g m off => M.pure (.ip g m (off + n))
  | _ => bJ "address expected"
def fieldAddr (t : TypeId) (a : aA) (i : Nat) : M aA :=
  (und E t).bind fun d => match d with
    | .struct fs => (eE "no such field" fs.toList[i]?).bind fun f => (sizeOf E f.type).bind fun n => match n.beq 0 with
      | true => bJ "a field of size 0"
      | false => aM f.offset a
    | _ => bJ "fieldAddr: struct expected"
def idx (i : Int) (len : Nat) : M Nat := (ob (decide (0 ≤ i ∧ i < (len : Int)))).bind fun _ => M.pure i.toNat
def dF {α : Type} (k : Int → M α) : aA → M α
  | .int _ n => k n
  | _ => bJ "int expected"
def slK {α : Type} (k : Nat → Nat → Nat → Option Nat → Nat → M α) (k2 : (Nat → aA) → Nat → Nat → Nat → M α) : aA → M α
  | .sl id off len cap sz => k id off len cap sz
  | .isl g sz off len => k2 g sz off len
  | _ => bJ "slice expected"
def indexAddr (t : TypeId) (x i : aA) : M aA :=
  (und E t).bind fun d => dF (fun i => match d with
    | .array len e => (sizeOf E e).bind fun n => (idx i len).bind fun j => aM (j * n) x
    | .slice e => (sizeOf E e).bind fun n =>
      slK (fun id off len _ sz => match n.beq sz with
          | true => (idx i len).bind fun j => M.pure (.ptr id (off + j * n))
          | false => bJ "indexAddr: size")
        (fun g sz off len => match n.beq sz with
          | true => (idx i len).bind fun j => M.pure (.ip g (off + len * sz) (off + j * n))
          | false => bJ "indexAddr: size") x
    | _ => bJ "indexAddr") i
def part (t : TypeId) (cs : List aA) (off : Nat) : M aA :=
  (ti E t).bind fun i => match eR i.desc with
    | true => M.pure (.agg ((cs.drop off).take i.size))
    | false => eE "part" cs[off]?
def dV {α : Type} (k : List aA → M α) : aA → M α
  | .agg l => k l
  | _ => bJ "struct or array expected"
def fB {α : Type} (k : List UInt8 → M α) : aA → M α
  | .str l => k l
  | _ => bJ "string expected"
def field (t : TypeId) (x : aA) (i : Nat) : M aA :=
  (und E t).bind fun d => match d with
    | .struct fs => dV (fun cs => (eE "no such field" fs.toList[i]?).bind fun f => part E f.type cs f.offset) x
    | _ => bJ "field"
def DD (s : List UInt8) (j : Nat) : UInt8 := s.getD j 0
def index (t : TypeId) (x i : aA) : M aA :=
  (und E t).bind fun d => dF (fun i => match d with
    | .array len e => dV (fun cs => (idx i len).bind fun j => (sizeOf E e).bind fun n => part E e cs (j * n)) x
    | .string => fB (fun s => (idx i s.length).bind fun j => M.pure (.int .u8 (DD s j).toNat)) x
    | _ => bJ "index") i
def cX (v : Option aA) (dflt : Nat) (most : Nat) : M Nat :=
  match v with
  | none => M.pure dflt
  | some v => dF (fun i => (ob (decide (0 ≤ i ∧ i ≤ (most : Int)))).bind fun _ => M.pure i.toNat) v
def bL {α : Type} (n sz : Nat) (k : M α) : M α := match n.beq sz with
  | true => k
  | false => bJ "slice: size"
def kZ (id off len n : Nat) (hi : Option aA) : M Nat :=
  match hi with
  | some (.int _ i) => match decide (i ≤ (len : Int)) with
    | true => M.pure len
    | false => (fX id).bind (cW fun c _ => M.pure (max len ((c.size - off) / n)))
  | _ => M.pure len
def slice (t : TypeId) (x : aA) (lo hi mx : Option aA) : M aA :=
  (und E t).bind fun d => match d with
    | .string => match mx with
      | none => fB (fun s => (cX hi s.length s.length).bind fun h => (cX lo 0 h).bind fun l => M.pure (.str ((s.take h).drop l))) x
      | some _ => bJ "slice"
    | .slice e => (sizeOf E e).bind fun n => match mx with
      | none => match x with
        | .aT => (cX hi 0 0).bind fun h => (cX lo 0 h).bind fun _ => M.pure .aT
        | .emp => (cX hi 0 0).bind fun h => (cX lo 0 h).bind fun _ => M.pure .emp
        | .isl g sz off len => bL n sz ((cX hi len len).bind fun h => (cX lo 0 h).bind fun l => M.pure (.isl g sz (off + l * n) (h - l)))
        | .sl id off len cap sz => bL n sz (match cap with
          | some c => (cX hi len c).bind fun h => (cX lo 0 h).bind fun l => M.pure (.sl id (off + l * n) (h - l) (some (c - l)) sz)
          | none => (kZ id off len n hi).bind fun most => (cX hi len most).bind fun h => (cX lo 0 h).bind fun l => M.pure (.sl id (off + l * n) (h - l) none sz))
        | _ => bJ "slice"
      | some mx => match hi with
       | none => bJ "slice"
       | some _ => match x with
        | .aT => (cX (some mx) 0 0).bind fun m => (cX hi 0 m).bind fun h => (cX lo 0 h).bind fun _ => M.pure .aT
        | .emp => (cX (some mx) 0 0).bind fun m => (cX hi 0 m).bind fun h => (cX lo 0 h).bind fun _ => M.pure .emp
        | .isl _ sz _ len => bL n sz ((cX (some mx) 0 0).bind fun m => (cX hi len m).bind fun h => (cX lo 0 h).bind fun _ => M.pure .emp)
        | .sl id off len cap sz => bL n sz ((cX (some mx) 0 (cap.getD len)).bind fun m => (cX hi len m).bind fun h => (cX lo 0 h).bind fun l =>
            M.pure (.sl id (off + l * n) (h - l) (some (m - l)) sz))
        | _ => bJ "slice"
    | .array len e => (sizeOf E e).bind fun n => match mx with
      | none => (cX hi len len).bind fun h => (cX lo 0 h).bind fun l => match x with
        | .ptr id off => M.pure (.sl id (off + l * n) (h - l) (some (len - l)) n)
        | .ip g m off => (ob ((off + len * n).ble m)).bind fun _ => M.pure (.isl g n (off + l * n) (h - l))
        | _ => bJ "slice"
      | some _ => bJ "slice"
    | _ => bJ "slice: type"
def lenOf : aA → M Nat
  | .aT => M.pure 0
  | .emp => M.pure 0
  | .sl _ _ n _ _ => M.pure n
  | .isl _ _ _ n => M.pure n
  | .str s => M.pure s.length
  | _ => bJ "len"
def gP : List UInt8 → List aA
  | [] => []
  | b :: l => .int .u8 b.toNat :: gP l
def cU (sz n : Nat) : aA → M (List aA)
  | .aT => (ob (n.beq 0)).bind fun _ => M.pure []
  | .emp => (ob (n.beq 0)).bind fun _ => M.pure []
  | .sl id off len _ s => bL s sz ((fX id).bind (cW fun c _ => (ob (n.ble len)).bind fun _ => (ob ((off + n * sz).ble c.size)).bind fun _ => M.pure (c.sub off (n * sz))))
  | .isl g s off len => bL s sz ((ob (n.ble len)).bind fun _ => M.pure (cellsOf g off (n * sz)))
  | .str s => bL sz 1 ((ob (n.ble s.length)).bind fun _ => M.pure (gP (s.take n)))
  | _ => bJ "slice or string expected"
def room : Nat := 281474976710656
def iR (e : TypeId) (i : TI) (need : Nat) (cs : List aA) : M aA :=
  (ob ((2 * need * i.bytes).ble room && need.ble room)).bind fun _ => (qC (.row (.l cs) e)).bind fun id => M.pure (.sl id 0 need none i.size)
def append (t : TypeId) (s x : aA) : M aA :=
  (und E t).bind fun d => match d with
    | .slice e => (ti E e).bind fun i => (lenOf x).bind fun n => (ask (n.beq 0)).bind fun nothing => match nothing with
      | true => match s with
        | .aT => M.pure s
        | .emp => M.pure s
        | .sl _ _ _ _ _ => M.pure s
        | .isl _ _ _ _ => M.pure s
        | _ => bJ "append: slice expected"
      | false => (cU i.size n x).bind fun xs => match s with
        | .aT => iR e i n xs
        | .emp => iR e i n xs
        | .sl id off len cap sz => bL sz i.size ((fX id).bind (cW fun c t' => match cap with
          | some m => (ask ((len + n).ble m)).bind fun fits => match fits with
            | true => (dS (.ptr id (off + len * i.size)) xs).bind fun _ => M.pure (.sl id off (len + n) (some m) sz)
            | false => (cU i.size len s).bind fun ys => iR e i (len + n) (ys ++ xs)
          | none => (ask ((off + (len + n) * i.size).ble c.size)).bind fun fits => match fits with
            | true => (ob (Nat.blt 0 i.size)).bind fun _ => (dS (.ptr id (off + len * i.size)) xs).bind fun _ => M.pure (.sl id off (len + n) none sz)
            | false => match off.beq 0 && t'.beq e && xs.all bK with
              | true => (cU i.size len s).bind fun ys => (CT id).bind fun _ => iR e i (len + n) (ys ++ xs)
              | false => bJ "append: a slice that begins within its block"))
        | _ => bJ "append: slice expected"
    | _ => bJ "append: type"
def tY (t : TypeId) (s : aA) (k : Int) : M aA :=
  (und E t).bind fun d => match d with
    | .slice e => (ti E e).bind fun i => match s with
      | .sl id off len cap sz => match cap with
        | some m => bL sz i.size ((ob (decide (0 < k ∧ m < len + k.toNat ∧ 0 < i.size ∧ i.zero.cells.all bK = true))).bind fun _ =>
            (cU i.size len (.sl id off len (some m) sz)).bind fun ys => iR e i (len + k.toNat) (ys ++ gI i.zero.cells k.toNat))
        | none => bJ "append of a make"
      | _ => bJ "append of a make"
    | _ => bJ "append: type"
def copy (t : TypeId) (dst src : aA) : M aA :=
  (und E t).bind fun d => match d with
    | .slice e => (lenOf src).bind fun n1 => (lenOf dst).bind fun n2 => (sizeOf E e).bind fun sz => (ask ((min n1 n2).beq 0)).bind fun nothing => match nothing with
      | true => match dst with
        | .str _ => bJ "copy"
        | _ => M.pure (.int .i64 0)
      | false => (cU sz (min n1 n2) src).bind fun cs => match dst with
        | .sl id off _ _ s => bL s sz ((dS (.ptr id off) cs).bind fun _ => M.pure (.int .i64 (min n1 n2 : Nat)))
        | _ => bJ "copy"
    | _ => bJ "copy: type"
def makeSlice (t : TypeId) (l c : aA) : M aA :=
  (und E t).bind fun d => match d with
    | .slice e => (ti E e).bind fun i => dF (fun l => dF (fun c =>
        (ob (decide (0 ≤ l ∧ l ≤ c ∧ c ≤ 9223372036854775807 ∧ (i.bytes : Int) * c ≤ 281474976710656))).bind fun _ =>
        (newRow E e (gI i.zero.cells c.toNat)).bind fun id => M.pure (.sl id 0 l.toNat (some c.toNat) i.size)) c) l
    | _ => bJ "makeSlice"
def bR (k : IntKind) (n : Int) : aA := .int k (k.wrap n)
def intOp (op : BinOp) (k : IntKind) (a b : Int) : M aA :=
  match op with
  | .add => M.pure (bR k (a + b))
  | .sub => M.pure (bR k (a - b))
  | .mul => M.pure (bR k (a * b))
  | .quo => (ob (decide (b ≠ 0))).bind fun _ => M.pure (bR k (a.tdiv b))
  | .rem => (ob (decide (b ≠ 0))).bind fun _ => M.pure (.int k (a.tmod b))
  | .and => M.pure (bR k (BitVec.ofInt k.bits a &&& BitVec.ofInt k.bits b).toNat)
  | .or => M.pure (bR k (BitVec.ofInt k.bits a ||| BitVec.ofInt k.bits b).toNat)
  | .xor => M.pure (bR k (BitVec.ofInt k.bits a ^^^ BitVec.ofInt k.bits b).toNat)
  | .andNot => M.pure (bR k (BitVec.ofInt k.bits a &&& ~~~ BitVec.ofInt k.bits b).toNat)
  | .shl => bJ "intOp"
  | .shr => bJ "intOp"
  | .eql => M.pure (.bool (a == b))
  | .neq => M.pure (.bool (a != b))
  | .lss => M.pure (.bool (decide (a < b)))
  | .leq => M.pure (.bool (decide (a ≤ b)))
  | .gtr => M.pure (.bool (decide (a > b)))
  | .geq => M.pure (.bool (decide (a ≥ b)))
def strOp (op : BinOp) (x y : List UInt8) : M aA :=
  match op with
  | .add => (ob (decide (((x.length + y.length : Nat) : Int) ≤ 9223372036854775807))).bind fun _ => M.pure (.str (x ++ y))
  | .eql => M.pure (.bool (x == y))
  | .neq => M.pure (.bool (!(x == y)))
  | .lss => M.pure (.bool (Op.bytesLess x y))
  | .leq => M.pure (.bool (Op.bytesLess x y || x == y))
  | .gtr => M.pure (.bool (!(Op.bytesLess x y || x == y)))
  | .geq => M.pure (.bool (!(Op.bytesLess x y)))
  | _ => bJ "strOp"
def vY {α : Type} (f : α → M Bool) : List α → M Bool
  | [] => M.pure true
  | x :: l => (f x).bind fun a => (vY f l).bind fun b => M.pure (a && b)
def c8 : aA → M Bool
  | .bool b => M.pure b
  | .gG b => M.pure b
  | _ => bJ "bool expected"
def bZ : aA → M Bool
  | .fC => M.pure true
  | .ptr _ _ => M.pure false
  | .ip _ _ _ => M.pure false
  | _ => bJ "pointer expected"
def cM : aA → M Bool
  | .dL => M.pure true
  | .fn _ _ _ => M.pure false
  | _ => bJ "function expected"
def pM : aA → M Bool
  | .aT => M.pure true
  | .sl _ _ _ _ _ => M.pure false
  | .isl _ _ _ _ => M.pure false
  | _ => bJ "slice expected"
def yQ : aA → M Bool
  | .nI => M.pure true
  | .map _ => M.pure false
  | _ => bJ "map expected"
def zE (l : List (QE E.P)) (t : Nat) : Bool :=
  match l with
  | [] => false
  | q :: l => q.t.beq t || zE l t
def equal : (depth : Nat) → TypeId → aA → aA → M Bool
  | 0, _, _, _ => bJ "equal: depth"
  | d + 1, t, x, y => (und E t).bind fun u => match u with
    | .bool => (c8 x).bind fun a => (c8 y).bind fun b => M.pure (a == b)
    | .int _ => match x with
      | .int k a => match y with
        | .int k' b => match decide (k = k') with
          | true => M.pure (a == b)
          | false => bJ "equal: kinds"
        | _ => bJ "equal"
      | _ => bJ "equal"
    | .string => fB (fun a => fB (fun b => M.pure (a == b)) y) x
    | .pointer _ => (bZ x).bind fun a => (bZ y).bind fun b => match a || b with
      | true => M.pure (a && b)
      | false => bJ "equal: pointers"
    | .func _ _ _ => (cM x).bind fun a => (cM y).bind fun b => match a || b with
      | true => M.pure (a && b)
      | false => bJ "equal: functions"
    | .slice _ => (pM x).bind fun a => (pM y).bind fun b => match a || b with
      | true => M.pure (a && b)
      | false => bJ "equal: slices"
    | .map _ _ => (yQ x).bind fun a => (yQ y).bind fun b => match a || b with
      | true => M.pure (a && b)
      | false => bJ "equal: maps"
    | .struct fs => match zE E E.eqs t with
      | true => dV (fun xs => dV (fun ys => vY (fun (f : Field) => match decide (f.name = "_") with
          | true => M.pure true
          | false => (part E f.type xs f.offset).bind fun a => (part E f.type ys f.offset).bind fun b => equal d f.type a b) fs.toList) y) x
      | false => bJ "equal: struct"
    | .array len e => match zE E E.eqs t with
      | true => dV (fun xs => dV (fun ys => (sizeOf E e).bind fun n => vY (fun i => (part E e xs (i * n)).bind fun a => (part E e ys (i * n)).bind fun b => equal d e a b) (List.range len)) y) x
      | false => bJ "equal: array"
    | _ => bJ "equal: type"
def bF (t : TypeId) (x y : aA) : M Bool := equal E 100 t x y
def cD (op : BinOp) (k : IntKind) (a b : Int) : M aA :=
  (ob (decide (0 ≤ b))).bind fun _ => match op with
    | .shl => M.pure (bR k (a * 2 ^ (min b.toNat k.bits)))
    | .shr => M.pure (.int k (a.fdiv (2 ^ (min b.toNat k.bits))))
    | _ => bJ "shift"
def cR : BinOp → Bool
  | .shl => true
  | .shr => true
  | _ => false
def aV (op : BinOp) (t : TypeId) (x y : aA) : M aA :=
  match op with
  | .eql => (bF E t x y).bind fun b => M.pure (.bool b)
  | .neq => (bF E t x y).bind fun b => M.pure (.bool (!b))
  | _ => bJ "binOp"
def cQ (op : BinOp) (k : IntKind) (a : Int) : aA → M aA
  | .int k' b => match cR op with
    | true => cD op k a b
    | false => match decide (k = k') with
      | true => intOp op k a b
      | false => bJ "binOp: kinds"
  | _ => bJ "binOp"
def binOp (op : BinOp) (t : TypeId) (x y : aA) : M aA :=
  match x with
  | .int k a => cQ op k a y
  | .str a => fB (fun b => strOp op a b) y
  | x => aV E op t x y
def unOp (op : UnOp) (x : aA) : M aA :=
  match op with
  | .neg => match x with
    | .int k n => M.pure (bR k (0 - n))
    | _ => bJ "unOp"
  | .xor => match x with
    | .int k n => intOp .xor k (if k.signed then -1 else k.max) n
    | _ => bJ "unOp"
  | .not => match x with
    | .bool b => M.pure (.bool (!b))
    | .gG b => M.pure (.gG (!b))
    | _ => bJ "unOp"
  | .plus => bJ "unOp"
def oC : aA → Bool
  | .int .u8 _ => true
  | _ => false
def j4 : aA → UInt8
  | .int _ n => UInt8.ofNat n.toNat
  | _ => 0
def AP : TypeDesc → Bool
  | .int .u8 => true
  | _ => false
def lS (e : TypeId) (x : aA) : M aA :=
  (und E e).bind fun u => match AP u with
    | true => (lenOf x).bind fun n => (cU 1 n x).bind fun cs => (ob (cs.all oC)).bind fun _ => M.pure (.str (cs.map j4))
    | false => bJ "convert: slice"
def zY (id : Nat) : M Unit := (fX id).bind fun b => jK id b
def convert (src dst : TypeId) (x : aA) : M aA :=
  (und E src).bind fun s => (und E dst).bind fun d => match d with
    | .int k => dF (fun n => M.pure (bR k n)) x
    | .string => match s with
      | .string => fB (fun l => M.pure (.str l)) x
      | .slice e => match x with
        | .str _ => bJ "convert"
        | x => lS E e x
      | _ => bJ "convert"
    | .slice e => (und E e).bind fun u => match AP u with
      | true => match s with
        | .string => fB (fun l => (sizeOf E e).bind fun n => bL n 1 ((newRow E e (gP l)).bind fun id => M.pure (.sl id 0 l.length none 1))) x
        | .slice _ => match src.beq dst with
          | true => match x with
            | .sl id off len cap sz => (fX id).bind (cW fun c t => (ob ((match cap with | some k => Nat.blt 0 k | none => off.blt c.size) && t.beq e)).bind fun _ => (zY id).bind fun _ => M.pure (.sl id off len cap sz))
            | _ => bJ "convert"
          | false => bJ "convert"
        | _ => bJ "convert"
      | false => bJ "convert"
    | _ => bJ "convert"
def extract (x : aA) (i : Nat) : M aA :=
  match x with
  | .tup l => eE "extract" l[i]?
  | _ => bJ "extract: tuple expected"
def min2 (x y : aA) : M aA :=
  match x with
  | .int k a => dF (fun b => M.pure (.int k (if b < a then b else a))) y
  | _ => bJ "min"
def max2 (x y : aA) : M aA :=
  match x with
  | .int k a => dF (fun b => M.pure (.int k (if a < b then b else a))) y
  | _ => bJ "max"
def cT (f : aA → aA → M aA) (x : aA) : List aA → M aA
  | [] => M.pure x
  | y :: l => (f x y).bind fun z => cT f z l
def range (t : TypeId) (x : aA) : M aA :=
  (und E t).bind fun d => match d with
    | .string => fB (fun s => (qC (.pJ s 0)).bind fun id => M.pure (.ptr id 0)) x
    | .map _ _ => match x with
      | .map id => (fX id).bind fun b => match b with
        | .map _ ck => (qC (.sU id ck [] ck)).bind fun it => M.pure (.ptr it 0)
        | _ => bJ "range"
      | _ => bJ "range"
    | _ => bJ "range"
def ND (id : Nat) : Blk → M aA
  | .pJ s pos => (ask (pos.blt s.length)).bind fun more => match more with
    | true => (jK id (.pJ s (pos + (Utf8.decode ⟨⟨s⟩⟩ pos).2))).bind fun _ => M.pure (.tup [.gG true, .int .i64 pos, .int .i32 (Utf8.decode ⟨⟨s⟩⟩ pos).1])
    | false => M.pure (.tup [.gG false])
  | _ => bJ "next"
def next (x : aA) : M aA :=
  match x with
  | .ptr id off => match off.beq 0 with
    | true => (fX id).bind (ND id)
    | false => bJ "next"
  | _ => bJ "next"
def opd (tm : List aA) : Operand → aA
  | .tmp t => nth tm t undef
  | .const v => ofValue v
  | .global _ => .aB
  | .func f => .fn (.func f) [] []
def eN (tm : List aA) : List Operand → List aA
  | [] => []
  | x :: l => opd tm x :: eN tm l
abbrev Rec := FuncId → Option Nat → Code → List aA → M (gH × List aA)
variable (rec : Rec)
def bT (tm : List aA) : List ResultVar → M (List aA)
  | [] => M.pure []
  | r :: l => match r with
    | .tmp t => (bT tm l).bind fun r => M.pure (nth tm t undef :: r)
    | .cell a t => (load E t (nth tm a undef)).bind fun v => (bT tm l).bind fun r => M.pure (v :: r)
def bX : List aA → aA
  | [v] => v
  | l => .tup l
def eG (tm : List aA) (rs : List ResultVar) : M aA := (bT E tm rs).bind fun r => M.pure (bX r)
def bO (f : FuncId) (args : List aA) : M aA :=
  match (E.funcs.find f).f.beq f with
  | true => (rec f none (E.funcs.find f).i.body (args ++ List.replicate ((E.funcs.find f).i.ntmps - args.length) undef)).bind fun r => match r.1 with
    | .exit _ => bJ "left by an exit"
    | .normal => eG E r.2 (E.funcs.find f).i.results
    | .ret => eG E r.2 (E.funcs.find f).i.results
  | false => bJ "no such function"
def oD (l : List (rU E.P)) (f : FuncId) (args : List aA) (k : M aA) : M aA :=
  match l with
  | [] => k
  | h :: l => match h.f.beq f with
    | true => h.act args
    | false => oD l f args k
def iC (f : FuncId) (args : List aA) : M aA := oD E E.uU f args (bO E rec f args)
def dI {α : Type} (k : lU → M α) : Blk → M α
  | .loop l => k l
  | _ => bJ "loop expected"
def mM (tm : List aA) : List (Tmp × aA) → List aA
  | [] => tm
  | (t, v) :: l => mM (put tm t v) l
def sG : gH → Option Code
  | .normal => none
  | .ret => some .ret
  | .exit id => some (.exit id)
def sT : gH → Bool
  | .normal => true
  | _ => false
def qN (id : Nat) (args : List aA) : M aA :=
  (fX id).bind (dI fun l => match args.length.beq l.params.length with
    | false => bJ "yield: arguments"
    | true => match l.state with
      | .ready => (rec l.fn (some id) l.assign (mM l.tmps (l.params.zip args))).bind fun r => match r.1 with
        | .normal => (fX id).bind (dI fun l2 => match l2.state with
          | .ready => (jK id (.loop { l2 with state := .busy })).bind fun _ => (rec l.fn (some id) l.body r.2).bind fun r2 =>
              (fX id).bind (dI fun l3 => (jK id (.loop { l3 with state := (match sT r2.1 with | true => .ready | false => .done), pending := sG r2.1 })).bind fun _ =>
                M.pure (.gG (sT r2.1)))
          | _ => bJ "yield: not ready")
        | _ => bJ "assign"
      | _ => bJ "yield: not ready")
def nF (f : aA) (args : List aA) : M aA :=
  match f with
  | .fn g first cap => match g with
    | .func g => iC E rec g (first ++ args ++ cap)
    | .yield id => match first with
      | [] => qN rec id args
      | _ => bJ "call"
    | _ => bJ "call"
  | _ => bJ "call"
def cP (ts : List TypeId) (x : aA) : M aA :=
  match ts with
  | t :: _ => (und E t).bind fun d => match d with
    | .array n _ => M.pure (.int .i64 n)
    | .pointer a => (und E a).bind fun d => match d with
      | .array n _ => M.pure (.int .i64 n)
      | _ => bJ "len"
    | .string => fB (fun s => M.pure (.int .i64 s.length)) x
    | .slice _ => match x with
      | .str _ => bJ "len"
      | x => (lenOf x).bind fun n => M.pure (.int .i64 n)
    | .map _ _ => match x with
      | .nI => M.pure (.int .i64 0)
      | .map id => (fX id).bind fun b => match b with
        | .map es _ => M.pure (.int .i64 (es.length : Nat))
        | _ => bJ "len"
      | _ => bJ "len"
    | _ => bJ "len"
  | [] => bJ "len"
abbrev Ent := aA × aA × Nat
def lX {α : Type} (k : List Ent → Nat → M α) : Blk → M α
  | .map es ck => k es ck
  | _ => bJ "map expected"
def pK : aA → aA → Bool
  | .int k a, .int j b => decide (k = j) && a == b
  | .str a, .str b => a == b
  | _, _ => false
def vZ : List aA → List aA → Bool
  | [], [] => true
  | a :: x, b :: y => pK a b && vZ x y
  | _, _ => false
def lN : aA → aA → Bool
  | .agg a, .agg b => vZ a b
  | .int k a, .int j b => pK (.int k a) (.int j b)
  | .str a, .str b => pK (.str a) (.str b)
  | _, _ => false
def G9 {α : Type} (f : α → M Unit) : List α → M Unit
  | [] => M.pure ()
  | x :: l => (f x).bind fun _ => G9 f l
def lA : Nat → TypeId → aA → M Unit
  | 0, _, _ => bJ "key: depth"
  | d + 1, t, v => (und E t).bind fun u => match u with
    | .bool => M.pure ()
    | .int _ => M.pure ()
    | .string => M.pure ()
    | .struct fs => dV (fun xs => G9 (fun (f : Field) => match decide (f.name = "_") with
        | true => M.pure ()
        | false => (part E f.type xs f.offset).bind fun a => lA d f.type a) fs.toList) v
    | .array n e => dV (fun xs => (sizeOf E e).bind fun z => G9 (fun i => (part E e xs (i * z)).bind fun a => lA d e a) (List.range n)) v
    | _ => bJ "key: type"
def mD (t : TypeId) (k : aA) : List Ent → Nat → M (Option (Nat × aA))
  | [], _ => M.pure none
  | e :: es, i => (bF E t k e.1).bind fun b => match b with
    | true => M.pure (some (i, e.2.1))
    | false => mD t k es (i + 1)
def D7 : aA → M (List Ent)
  | .nI => M.pure []
  | .map id => (fX id).bind (lX fun es _ => M.pure es)
  | _ => bJ "map expected"
def okV (ok : Bool) (v : aA) (is : Bool) : aA := match ok with
  | true => .tup [v, .gG is]
  | false => v
def kH (t : TypeId) (x k : aA) (ok : Bool) : M aA :=
  (und E t).bind fun d => match d with
    | .map kt et => (D7 x).bind fun es => (lA E 100 kt k).bind fun _ => (mD E kt k es 0).bind fun r => match r with
      | some p => M.pure (okV ok p.2 true)
      | none => (cF E et).bind fun z => M.pure (okV ok z false)
    | _ => bJ "lookup"
def pX (es : List Ent) (i : Nat) (v : aA) : List Ent := es.modify i fun e => (e.1, v, e.2.2)
def iP (t : TypeId) (x k : aA) : M aA :=
  (und E t).bind fun d => match d with
    | .map kt et => match x with
      | .map id => (fX id).bind (lX fun es ck => (lA E 100 kt k).bind fun _ => (mD E kt k es 0).bind fun r => match r with
        | some p => (eE "entry" es[p.1]?).bind fun e => match lN e.1 k with
          | true => (jK id (.map es ck)).bind fun _ => M.pure (.tup [p.2, .int .i64 e.2.2])
          | false => bJ "a key that is not the same bit by bit"
        | none => (cF E et).bind fun z => (jK id (.map (es ++ [(k, z, ck)]) (ck + 1))).bind fun _ => M.pure (.tup [z, .int .i64 ck]))
      | _ => bJ "mapEntry"
    | _ => bJ "mapEntry"
def qJ (n : Int) : List Ent → Nat → Option Nat
  | [], _ => none
  | e :: es, i => match ((e.2.2 : Int) == n) with
    | true => some i
    | false => qJ n es (i + 1)
def gT (x st v : aA) : M aA :=
  match x with
  | .map id => (fX id).bind (lX fun es ck => dF (fun n => (eE "entryStore" (qJ n es 0)).bind fun i => (jK id (.map (pX es i v) ck)).bind fun _ => M.pure undef) st)
  | _ => bJ "entryStore"
def qD (t : TypeId) (x k v : aA) : M aA :=
  (und E t).bind fun d => match d with
    | .map kt et => match x with
      | .map id => (fX id).bind (lX fun es ck => (lA E 100 kt k).bind fun _ => (mD E kt k es 0).bind fun r => match r with
        | some p => (eE "entry" es[p.1]?).bind fun e => match lN e.1 k with
          | true => (jK id (.map (pX es p.1 v) ck)).bind fun _ => M.pure undef
          | false => bJ "a key that is not the same bit by bit"
        | none => (jK id (.map (es ++ [(k, v, ck)]) (ck + 1))).bind fun _ => M.pure undef)
      | _ => bJ "mapUpdate"
    | _ => bJ "mapUpdate"
def uR (r : Option aA) : M aA :=
  match r with
  | none => (qC (.map [] 0)).bind fun id => M.pure (.map id)
  | some _ => bJ "makeMap"
def D8 (x : aA) : M aA :=
  match x with
  | .ptr id off => match off.beq 0 with
    | true => (fX id).bind fun b => match b with
      | .sU mm _ seen gR => (fX mm).bind fun c => match c with
        | .map es ck => match ck.beq gR with
          | true => (eE "entry" seen.getLast?).bind fun st => (eE "entry" (es.find? fun e => e.2.2.beq st)).bind fun e => M.pure (.tup [e.1, e.2.1])
          | false => bJ "entry"
        | _ => bJ "entry"
      | _ => bJ "entry"
    | false => bJ "entry"
  | _ => bJ "entry"
def zM (ts : List TypeId) (x k : aA) : M aA :=
  match ts with
  | t :: _ => (und E t).bind fun d => match d with
    | .map kt _ => match x with
      | .map id => (fX id).bind (lX fun es ck => (lA E 100 kt k).bind fun _ => (mD E kt k es 0).bind fun r => match r with
        | some p => (jK id (.map (es.eraseIdx p.1) ck)).bind fun _ => M.pure (.tup [])
        | none => (jK id (.map es ck)).bind fun _ => M.pure (.tup []))
      | _ => bJ "delete"
    | _ => bJ "delete"
  | [] => bJ "delete"
def fD : TypeDesc → Bool
  | .int _ => true
  | _ => false
def fP (ts : List TypeId) (s x : aA) : M aA :=
  match ts with
  | t :: t2 :: _ => (und E t2).bind fun d => match fD d with
    | true => match ts with
      | _ :: _ :: [] => dF (tY E t s) x
      | _ => bJ "append of a make"
    | false => append E t s x
  | _ => bJ "append"
def eL (ts : List TypeId) (x y : aA) : M aA :=
  match ts with
  | t :: _ => copy E t x y
  | [] => bJ "copy"
def JT : aA → M Nat
  | .aT => M.pure 0
  | .emp => M.pure 0
  | .sl _ _ _ cap _ => match cap with
    | some c => M.pure c
    | none => bJ "cap: not known"
  | _ => bJ "cap"
def N3 (ts : List TypeId) (x : aA) : M aA :=
  match ts with
  | t :: _ => (und E t).bind fun d => match d with
    | .slice _ => (JT x).bind fun n => M.pure (.int .i64 n)
    | _ => bJ "cap"
  | [] => bJ "cap"
def nB (ts : List TypeId) (x : aA) : M aA :=
  match ts with
  | t :: _ => (und E t).bind fun d => match d with
    | .slice e => match x with
      | .aT => M.pure (.tup [])
      | .emp => M.pure (.tup [])
      | .sl id off len _ sz => (ask (len.beq 0)).bind fun nothing => match nothing with
        | true => M.pure (.tup [])
        | false => (ti E e).bind fun i => bL i.size sz ((dS (.ptr id off) (gI i.zero.cells len)).bind fun _ => M.pure (.tup []))
      | _ => bJ "clear"
    | .map _ _ => match x with
      | .nI => M.pure (.tup [])
      | .map id => (fX id).bind (lX fun _ ck => (jK id (.map [] ck)).bind fun _ => M.pure (.tup []))
      | _ => bJ "clear"
    | _ => bJ "clear"
  | [] => bJ "clear"
def fW (k : aA → M aA) : List aA → M aA
  | [x] => k x
  | _ => bJ "one argument expected"
def fU (k : aA → aA → M aA) : List aA → M aA
  | [x, y] => k x y
  | _ => bJ "two arguments expected"
def eF (k : aA → List aA → M aA) : List aA → M aA
  | x :: l => k x l
  | [] => bJ "an argument expected"
def builtin (b : Builtin) (ts : List TypeId) (args : List aA) : M aA :=
  match b with
  | .len => fW (cP E ts) args
  | .append => fU (fP E ts) args
  | .copy => fU (eL E ts) args
  | .min => eF (cT min2) args
  | .max => eF (cT max2) args
  | .cap => fW (N3 E ts) args
  | .clear => fW (nB E ts) args
  | .delete => fU (zM E ts) args
  | _ => bJ "builtin"
def fM (tm : List aA) : List (Nat × Operand) → List (Nat × aA)
  | [] => []
  | p :: l => (p.1, opd tm p.2) :: fM tm l
def opt (tm : List aA) : Option Operand → Option aA
  | none => none
  | some x => some (opd tm x)
def aY (t a b : aA) : M aA := (branch t).bind fun t => match t with
  | true => M.pure a
  | false => M.pure b
def kL (t : TypeId) (a v : aA) : M aA := (store E t a v).bind fun _ => M.pure undef
def nilCheck (x : aA) : M aA :=
  match x with
  | .ptr id off => M.pure (.ptr id off)
  | .ip f n off => M.pure (.ip f n off)
  | .fn f a c => match f with
    | .func g => M.pure (.fn (.func g) a c)
    | .yield g => M.pure (.fn (.yield g) a c)
    | _ => bJ "nilCheck"
  | _ => bJ "nilCheck"
def cN (tm : List aA) (c : Call) : M aA :=
  match c.callee with
  | .value f => nF E rec (opd tm f) (eN tm c.args.toList)
  | .builtin b => builtin E b c.argTypes.toList (eN tm c.args.toList)
  | .invoke _ _ => bJ "invoke"
def cB (t : TypeId) : M aA := (cF E t).bind fun z => alloc E t z
def execOp (tm : List aA) (o : Op) : M aA :=
  match o with
  | .move x => M.pure (opd tm x)
  | .assign x => M.pure (opd tm x)
  | .pick c a b => aY (opd tm c) (opd tm a) (opd tm b)
  | .alloc t => cB E t
  | .box t x => alloc E t (opd tm x)
  | .build t ps => build E t (fM tm ps.toList)
  | .buildSlice t n ps => buildSlice E t n (fM tm ps.toList)
  | .load t a => load E t (opd tm a)
  | .store t a x => kL E t (opd tm a) (opd tm x)
  | .nilCheck x => nilCheck (opd tm x)
  | .binOp op t x y _ => binOp E op t (opd tm x) (opd tm y)
  | .unOp op _ x => unOp op (opd tm x)
  | .convert s d x => convert E s d (opd tm x)
  | .makeFunc f a c => match f with
    | .func g => M.pure (.fn (.func g) (eN tm a.toList) (eN tm c.toList))
    | _ => bJ "makeFunc"
  | .makeSlice t l c => makeSlice E t (opd tm l) (opd tm c)
  | .slice t x lo hi mx => slice E t (opd tm x) (opt tm lo) (opt tm hi) (opt tm mx)
  | .fieldAddr t x f => fieldAddr E t (opd tm x) f
  | .field t x f => field E t (opd tm x) f
  | .indexAddr t x i => indexAddr E t (opd tm x) (opd tm i)
  | .index t x i => index E t (opd tm x) (opd tm i)
  | .range t x => range E t (opd tm x)
  | .next x s => match s with
    | true => next (opd tm x)
    | false => bJ "next of a map"
  | .extract x i => extract (opd tm x) i
  | .call c => cN E rec tm c
  | .makeMap _ r => uR (opt tm r)
  | .entry x => D8 (opd tm x)
  | .lookup t x k ok => kH E t (opd tm x) (opd tm k) ok
  | .mapUpdate t x k y => qD E t (opd tm x) (opd tm k) (opd tm y)
  | .insert t x k y => qD E t (opd tm x) (opd tm k) (opd tm y)
  | .mapEntry t x k => iP E t (opd tm x) (opd tm k)
  | .entryStore _ x st y => gT (opd tm x) (opd tm st) (opd tm y)
  | _ => bJ "an operation that is not known"
def cE (tm : List aA) (d : Option Tmp) (v : aA) : List aA :=
  match d with
  | some d => put tm d v
  | none => tm
def kF (want : Bool) : aA → M Bool
  | .bool b => (ask b).bind fun t => M.pure (t == want)
  | .gG b => M.pure (b == want)
  | .aB => bJ "guard"
  | _ => M.pure false
def wanted (ops : List Oper) (tm : List aA) (g : Option (Nat × Bool)) : M Bool :=
  match g with
  | none => M.pure true
  | some p => match (ops[p.1]?).bind (·.dst) with
    | none => M.pure false
    | some d => kF p.2 (nth tm d undef)
def opV (ops : List Oper) (o : Oper) (tm : List aA) : M aA :=
  (wanted ops tm o.guard).bind fun w => match w with
    | true => execOp E rec tm o.op
    | false => M.pure undef
def FA (ops : List Oper) (o : Oper) (tm : List aA) : M (List aA) := (opV E rec ops o tm).bind fun v => M.pure (cE tm o.dst v)
def jY (ops : List Oper) : List Oper → List aA → M (List aA)
  | [], tm => M.pure tm
  | o :: bM, tm => (FA E rec ops o tm).bind fun tm => jY ops bM tm
structure gA where
  j : Nat
  r : List Nat
  w : List Nat
  lo : Nat
  hi : Nat
def old (lo hi id : Nat) : Bool := id.blt lo || hi.ble id
def lD {α : Type} (j : Nat) (m : M α) (s : St) : Res (α × gA) :=
  match m.run { s with rds := [], wrs := [] } with
  | .ok a s' => .ok (a, ⟨j, s'.rds.filter (old s.next s'.next), s'.wrs.filter (old s.next s'.next), s.next, s'.next⟩) { s' with rds := s'.rds ++ s.rds, wrs := s'.wrs ++ s.wrs }
  | .bJ w => .bJ w
  | .ask b => .ask b
theorem IJ {α : Type} (j : Nat) (m : M α) : Loc (lD j m) := by
  intro s a s' h
  unfold lD at h
  cases hm : m.run { s with rds := [], wrs := [] } with
  | bJ w => rw [hm] at h; cases h
  | ask b => rw [hm] at h; cases h
  | ok a1 s1 =>
    rw [hm] at h
    injection h with h1 h2
    subst h1; subst h2
    obtain ⟨r, w, o, d⟩ := m.loc _ _ _ hm
    have er : s1.rds = r := by simpa using d.rds
    have ew : s1.wrs = w := by simpa using d.wrs
    refine ⟨r, w, o, ⟨d.next, by simp [er], by simp [ew], d.obs, d.bM, d.dJ, fun t hn ho hg => ?_, d.orc, d.uF⟩⟩
    obtain ⟨t', e, hn', ho', hr', hw', hob', hg', hk'⟩ := d.rR { t with rds := [], wrs := [] } hn ho hg
    have er' : t'.rds = r := by simpa using hr'
    have ew' : t'.wrs = w := by simpa using hw'
    refine ⟨{ t' with rds := t'.rds ++ t.rds, wrs := t'.wrs ++ t.wrs }, ?_, hn', ho', by simp [er'], by simp [ew'], hob', hg', hk'⟩
    unfold lD
    rw [e]
    simp only [hn, hn', er, ew, er', ew']
def jP {α : Type} (j : Nat) (m : M α) : M (α × gA) := ⟨lD j m, IJ j m⟩
def iW (x y : List Nat) : Bool := x.any fun a => y.any fun b => a.beq b
def within (lo hi id : Nat) : Bool := lo.ble id && id.blt hi
def kI (x : List Nat) (f : gA) : Bool := match f.lo.beq f.hi with
  | true => false
  | false => x.any (within f.lo f.hi)
def fK (a b : gA) : Bool := iW a.w b.r || (iW a.w b.w || (iW a.r b.w || (kI a.r b || (kI a.w b || (kI b.r a || kI b.w a)))))
def nA (acc : List Nat) : List Edge → Nat
  | [] => 0
  | e :: l => match Region.binds .any e with
    | true => nA acc l ||| (2 ^ e.on ||| acc.getD e.on 0)
    | false => nA acc l
def dU (acc : List Nat) : List Oper → List Nat
  | [] => acc
  | o :: l => dU (acc ++ [nA acc o.after.toList]) l
def dX (bs : List Nat) : List gA → Bool
  | [] => true
  | b :: l => l.all (fun a => (fK a b).not || (bs.getD b.j 0).testBit a.j) && dX bs l
def iX (ops : List Oper) : Nat → List Oper → List aA → List gA → M (List aA × List gA)
  | _, [], tm, fs => M.pure (tm, fs)
  | j, o :: bM, tm, fs => (jP j (opV E rec ops o tm)).bind fun r => iX ops (j + 1) bM (cE tm o.dst r.1) (r.2 :: fs)
def sD : List Operand → List Nat
  | [] => []
  | x :: l => match x with
    | .tmp t => t :: sD l
    | _ => sD l
def rE (ops : List Oper) (o : Oper) : List Nat :=
  sD o.op.operands.toList ++
  (match o.guard with
   | some p => ((ops[p.1]?).bind (·.dst)).toList
   | none => [])
def k9 (ops : List Oper) (j : Nat) : List Oper → List gA → List gA
  | [], fs => fs
  | o :: bM, fs => k9 ops (j + 1) bM (⟨j, rE ops o, o.dst.toList, 0, 0⟩ :: fs)
def rQ (j : Nat) : List Oper → Bool
  | [] => true
  | o :: l => o.after.toList.all (fun e => match Region.binds .any e with
      | true => e.on.blt j
      | false => true) && rQ (j + 1) l
def qP (ops : List Oper) : Bool := rQ 0 ops && dX (dU [] ops) (k9 ops 0 ops [])
def vB (ops : List Oper) (tm : List aA) : M (List aA) :=
  (ob (qP ops)).bind fun _ => (iX E rec ops 0 ops tm []).bind fun r => (ob (dX (dU [] ops) r.2)).bind fun _ => M.pure r.1
def C5 (id : Nat) (tm : List aA) : M (gH × List aA) :=
  (fX id).bind (dI fun l => match l.state with
    | .busy => bJ "busy"
    | _ => (jK id (.loop { l with state := .exhausted })).bind fun _ => match l.pending with
      | none => M.pure (.normal, tm)
      | some c => match c with
        | .ret => M.pure (.ret, tm)
        | .exit j => M.pure (.exit j, tm)
        | _ => bJ "pending")
def aN : List Bool → List aA → List aA
  | [], tm => tm
  | _ :: _, [] => []
  | b :: k, a :: tm => (match b with | true => a | false => .aB) :: aN k tm
def bQ (fn : FuncId) (tm : List aA) : List aA :=
  match (E.funcs.find fn).i.aO with
  | none => tm
  | some k => aN k tm
noncomputable def step (fn : FuncId) (rnd : Option Nat) (c : Code) (tm : List aA) : M (gH × List aA) :=
  match c with
  | .skip => M.pure (.normal, tm)
  | .label _ => M.pure (.normal, tm)
  | .region id ops draw => match draw with
    | false => (jY E rec ops.toList ops.toList tm).bind fun tm => M.pure (.normal, bQ E fn tm)
    | true => match jZ E.yG fn id (.region id ops true) with
      | some act => act tm
      | none => (vB E rec ops.toList tm).bind fun tm => M.pure (.normal, bQ E fn tm)
  | .seq a b => (rec fn rnd a tm).bind fun r => match r.1 with
    | .normal => rec fn rnd b r.2
    | _ => M.pure r
  | .cond c a b => (branch (opd tm c)).bind fun t => match t with
    | true => rec fn rnd a tm
    | false => rec fn rnd b tm
  | .block id c => match jZ E.qK fn id (.block id c) with
    | some act => act tm
    | none => (rec fn rnd c tm).bind fun r => match r.1 with
      | .exit j => match j.beq id with
        | true => M.pure (.normal, r.2)
        | false => M.pure r
      | _ => M.pure r
  | .loop c => (rec fn rnd c tm).bind fun r => match r.1 with
    | .normal => rec fn rnd (.loop c) r.2
    | _ => M.pure r
  | .rangeFunc f ps assign body => match opd tm f with
    | .fn g first cap => match g with
      | .func g => match (E.funcs.find g).f.beq g with
        | true => (match rnd with
            | none => M.pure ()
            | some l0 => (fX l0).bind (dI fun _ => M.pure ())).bind fun _ =>
          (qC (.loop { state := .ready, pending := none, fn, tmps := tm, params := ps.toList, assign, body })).bind fun id =>
          (iC E rec g (first ++ [aA.fn (.yield id) [] []] ++ cap)).bind fun _ => C5 id tm
        | false => bJ "range over a function"
      | _ => bJ "range over a function"
    | _ => bJ "range over a function"
  | .exit id => M.pure (.exit id, tm)
  | .scope c => rec fn rnd c tm
  | .ret => M.pure (.ret, tm)
  | _ => bJ "code"
noncomputable def jI : Nat → Rec
  | 0 => fun _ _ _ _ => bJ "fuel"
  | n + 1 => step E (jI n)
end Go.Am
set_option linter.unusedSimpArgs false
set_option linter.unusedVariables false
namespace Go.Am
open Go
variable {E : Env}
theorem aC {α : Type} {a b : α} {s s' : St} (h : (M.pure a).run s = .ok b s') : b = a ∧ s' = s := by
 simp only [M.pure] at h
 injection h with h1 h2
 exact ⟨h1.symm, h2.symm⟩
theorem aD {α : Type} {w : String} {b : α} {s s' : St} (h : (bJ w : M α).run s = .ok b s') : False := by
 simp only [bJ] at h
 cases h
structure fS (s s' : St) : Prop where
 heap : s'.heap = s.heap
 next : s'.next = s.next
theorem fS.refl (s : St) : fS s s := ⟨rfl, rfl⟩
theorem fS.trans {a b c : St} (h : fS a b) (h' : fS b c) : fS a c := ⟨h'.heap.trans h.heap, h'.next.trans h.next⟩
theorem eK {b : Bool} {u : Unit} {s s' : St} (h : (ob b).run s = .ok u s') (ho : bU s') : b = true ∧ fS s s' := by
 simp only [ob, obF] at h
 cases b with
 | true =>
  injection h with h1 h2
  subst h2
  exact ⟨rfl, rfl, rfl⟩
 | false =>
  injection h with h1 h2
  subst h2
  simp only [bU, List.all_cons, id, Bool.and_eq_true] at ho
  exact absurd ho.1 (by decide)
theorem oO {b a : Bool} {s s' : St} (h : (ask b).run s = .ok a s') (ho : bU s') : a = b ∧ fS s s' := by
 simp only [ask, BM] at h
 split at h
 ·injection h with h1 h2
  subst h1; subst h2
  exact ⟨rfl, rfl, rfl⟩
 ·cases h
 ·injection h with h1 h2
  subst h1; subst h2
  simp only [bU, List.all_cons, id, Bool.and_eq_true] at ho
  exact ⟨(beq_iff_eq.1 ho.1).symm, rfl, rfl⟩
theorem xZ {v : aA} {a : Bool} {s s' : St} (h : (branch v).run s = .ok a s') (ho : bU s') : (v = .bool a ∨ v = .gG a) ∧ fS s s' := by
 unfold branch at h
 split at h
 ·obtain ⟨h1, h2⟩ := aC h
  subst h1; subst h2
  exact ⟨.inr rfl, .refl _⟩
 ·obtain ⟨h1, h2⟩ := oO h ho
  subst h1
  exact ⟨.inl rfl, h2⟩
 ·exact (aD h).elim
theorem eC {id : Nat} {b : Blk} {s s' : St} (h : (fX id).run s = .ok b s') : s.heap.get id = some b ∧ fS s s' := by
 simp only [fX, z7] at h
 cases hg : s.heap.get id with
 | none => rw [hg] at h; cases h
 | some b0 =>
  rw [hg] at h
  injection h with h1 h2
  subst h1; subst h2
  exact ⟨rfl, rfl, rfl⟩
theorem DR {id : Nat} {b : Option Blk} {u : Unit} {s s' : St} (h : sY id b s = .ok u s') :
  s.heap.get id ≠ none ∧ s'.next = s.next ∧ ∀ j, s'.heap.get j = if j = id then b else s.heap.get j := by
 unfold sY at h
 cases hg : s.heap.get id with
 | none => rw [hg] at h; cases h
 | some b0 =>
  rw [hg] at h
  injection h with _ h2
  subst h2
  exact ⟨by simp, rfl, fun j => Tr.mR s.heap id b j⟩
theorem nL {id : Nat} {b : Blk} {u : Unit} {s s' : St} (h : (jK id b).run s = .ok u s') :
  s.heap.get id ≠ none ∧ s'.next = s.next ∧ ∀ j, s'.heap.get j = if j = id then some b else s.heap.get j := DR h
theorem E3 {id : Nat} {u : Unit} {s s' : St} (h : (CT id).run s = .ok u s') :
  s.heap.get id ≠ none ∧ s'.next = s.next ∧ ∀ j, s'.heap.get j = if j = id then none else s.heap.get j := DR h
theorem yS {id : Nat} {b : Blk} {s s' : St} (h : (qC b).run s = .ok id s') :
  id = s.next ∧ s'.next = s.next + 1 ∧ ∀ j, s'.heap.get j = if j = id then some b else s.heap.get j := by
 simp only [qC, I0] at h
 injection h with h1 h2
 subst h1; subst h2
 exact ⟨rfl, rfl, fun j => Tr.mR s.heap s.next (some b) j⟩
theorem iU {α : Type} {k : bH → TypeId → M α} {b : Blk} {a : α} {s s' : St} (h : (cW k b).run s = .ok a s') : ∃ c t, b = .row c t ∧ (k c t).run s = .ok a s' := by
 unfold cW at h
 split at h
 ·exact ⟨_, _, rfl, h⟩
 ·exact (aD h).elim
theorem nY {α : Type} {k : lU → M α} {b : Blk} {a : α} {s s' : St} (h : (dI k b).run s = .ok a s') : ∃ l, b = .loop l ∧ (k l).run s = .ok a s' := by
 unfold dI at h
 split at h
 ·exact ⟨_, rfl, h⟩
 ·exact (aD h).elim
theorem j3 {α : Type} {why : String} {o : Option α} {a : α} {s s' : St} (h : (eE why o).run s = .ok a s') : o = some a ∧ s' = s := by
 unfold eE at h
 split at h
 ·obtain ⟨h1, h2⟩ := aC h
  exact ⟨by rw [h1], h2⟩
 ·exact (aD h).elim
theorem mP {α : Type} {k : Int → M α} {v : aA} {a : α} {s s' : St} (h : (dF k v).run s = .ok a s') : ∃ q n, v = .int q n ∧ (k n).run s = .ok a s' := by
 unfold dF at h
 split at h
 ·exact ⟨_, _, rfl, h⟩
 ·exact (aD h).elim
theorem kT {α : Type} {k : List UInt8 → M α} {v : aA} {a : α} {s s' : St} (h : (fB k v).run s = .ok a s') : ∃ l, v = .str l ∧ (k l).run s = .ok a s' := by
 unfold fB at h
 split at h
 ·exact ⟨_, rfl, h⟩
 ·exact (aD h).elim
theorem kE {α : Type} {k : List aA → M α} {v : aA} {a : α} {s s' : St} (h : (dV k v).run s = .ok a s') : ∃ l, v = .agg l ∧ (k l).run s = .ok a s' := by
 unfold dV at h
 split at h
 ·exact ⟨_, rfl, h⟩
 ·exact (aD h).elim
theorem eH {α : Type} {n z : Nat} {k : M α} {a : α} {s s' : St} (h : (bL n z k).run s = .ok a s') : n = z ∧ k.run s = .ok a s' := by
 unfold bL at h
 split at h
 ·rename_i e; exact ⟨Nat.eq_of_beq_eq_true e, h⟩
 ·exact (aD h).elim
theorem kR {t : TypeId} {i : TI} {s s' : St} (h : (ti E t).run s = .ok i s') : TOk E.P t i ∧ s' = s := by
 unfold ti at h
 cases hb : (E.types.find t).t.beq t with
 | true =>
  rw [hb] at h
  obtain ⟨h1, h2⟩ := aC h
  have := (E.types.find t).ok
  rw [Nat.eq_of_beq_eq_true hb] at this
  subst h1
  exact ⟨this, h2⟩
 | false => rw [hb] at h; exact (aD h).elim
theorem eY {t : TypeId} {d : TypeDesc} {s s' : St} (h : (und E t).run s = .ok d s') : (∃ i, TOk E.P t i ∧ i.desc = d) ∧ s' = s := by
 obtain ⟨i, s1, h1, h2⟩ := M.aK h
 obtain ⟨hi, rfl⟩ := kR h1
 obtain ⟨rfl, rfl⟩ := aC h2
 exact ⟨⟨i, hi, rfl⟩, rfl⟩
theorem gB {t : TypeId} {n : Nat} {s s' : St} (h : (sizeOf E t).run s = .ok n s') : (∃ i, TOk E.P t i ∧ i.size = n) ∧ s' = s := by
 obtain ⟨i, s1, h1, h2⟩ := M.aK h
 obtain ⟨hi, rfl⟩ := kR h1
 obtain ⟨rfl, rfl⟩ := aC h2
 exact ⟨⟨i, hi, rfl⟩, rfl⟩
theorem rW {t : TypeId} {v : aA} {s s' : St} (h : (cF E t).run s = .ok v s') : (∃ i, TOk E.P t i ∧ i.zero = v) ∧ s' = s := by
 obtain ⟨i, s1, h1, h2⟩ := M.aK h
 obtain ⟨hi, rfl⟩ := kR h1
 obtain ⟨rfl, rfl⟩ := aC h2
 exact ⟨⟨i, hi, rfl⟩, rfl⟩
section
variable {P : Program} {t : TypeId} {i : TI} {w : World}
theorem TOk.dT (h : TOk P t i) : (underlying t).run P w = .ok i.desc w := run_underlying h.und w
theorem TOk.dO (h : TOk P t i) : (Go.sizeOf t).run P w = .ok i.size w := by
 obtain ⟨j, z, hj, hs, _⟩ := h.CU
 simp [Go.sizeOf, typeInfo, hj, hs]
theorem TOk.kO (h : TOk P t i) : (P.info? t).map (·.size) = some i.size := by
 obtain ⟨j, z, hj, hs, _⟩ := h.CU
 simp [hj, hs]
theorem TOk.A7 (h : TOk P t i) : ∃ j, (typeInfo t).run P w = .ok j w ∧ j.size = i.size ∧ j.bytes = i.bytes ∧ ∃ z, j.zero = some z ∧ ofValue z = i.zero := by
 obtain ⟨j, z, hj, hs, hb, hz, hv⟩ := h.CU
 exact ⟨j, by simp [typeInfo, hj], hs, hb, z, hz, hv⟩
theorem TOk.kW (h : TOk P t i) : ∃ z, (zeroValue t).run P w = .ok z w ∧ ofValue z = i.zero := by
 obtain ⟨j, z, hj, hs, hb, hz, hv⟩ := h.CU
 exact ⟨z, by simp [zeroValue, typeInfo, hj, hz], hv⟩
theorem TOk.wX (h : TOk P t i) : (isAgg t).run P w = .ok (eR i.desc) w := by
 unfold isAgg
 rw [Sem.run_bind, h.dT, Result.andThen_ok]
 cases i.desc <;> rfl
end
theorem pL : ∀ l, (ofList l).length = l.length
 | [] => rfl
 | v :: l => by simp [ofList, pL l]
theorem uL : ∀ (l : List Value) (i : Nat), (ofList l)[i]? = (l[i]?).map ofValue
 | [], i => by simp [ofList]
 | v :: l, 0 => by simp [ofList]
 | v :: l, i + 1 => by simp [ofList, uL l i]
mutual
theorem gZ {ρ : Ren} {m : Mem} : ∀ v, R ρ m (ofValue v) v
 | .bool b => .bool b
 | .int k n => .int k n
 | .string s => by
  obtain ⟨⟨l⟩⟩ := s
  exact .str l
 | .pointer none => .fC
 | .slice none 0 0 => .aT
 | .map none => .nI
 | .nilFunc => .dL
 | .nilIface => .wL
 | .agg c => by
  have := uM (ρ := ρ) (m := m) c
  exact .agg _ _ this.1 this.2
 | .tuple c => by
  have := uM (ρ := ρ) (m := m) c
  exact .tup _ _ this.1 this.2
 | .float _ _ => by simp only [ofValue]; exact .aB _
 | .complex _ _ _ => by simp only [ofValue]; exact .aB _
 | .pointer (some _) => by simp only [ofValue]; exact .aB _
 | .slice (some _) _ _ => by simp only [ofValue]; exact .aB _
 | .slice none (_ + 1) _ => by simp only [ofValue]; exact .aB _
 | .slice none 0 (_ + 1) => by simp only [ofValue]; exact .aB _
 | .map (some _) => by simp only [ofValue]; exact .aB _
 | .chan _ => by simp only [ofValue]; exact .aB _
 | .func _ _ _ => by simp only [ofValue]; exact .aB _
 | .iface _ _ => by simp only [ofValue]; exact .aB _
theorem uM {ρ : Ren} {m : Mem} : ∀ c, (eB c).length = c.size ∧ ∀ (i : Nat) v x, (eB c)[i]? = some v → c[i]? = some x → R ρ m v x
 | ⟨l⟩ => by
  have := sS (ρ := ρ) (m := m) l
  refine ⟨by simp [eB, pL], fun i v x hv hx => ?_⟩
  simp only [eB, uL] at hv
  simp only [List.getElem?_toArray] at hx
  rw [hx] at hv
  simp only [Option.map_some, Option.some.injEq] at hv
  subst hv
  exact this i x hx
theorem sS {ρ : Ren} {m : Mem} : ∀ l : List Value, ∀ (i : Nat) x, l[i]? = some x → R ρ m (ofValue x) x
 | [], i, x, hx => by simp at hx
 | v :: l, 0, x, hx => by
  simp at hx
  subst hx
  exact gZ v
 | v :: l, i + 1, x, hx => by
  simp at hx
  exact sS l i x hx
end
theorem R.cells {ρ : Ren} {m : Mem} {v : aA} {x : Value} (h : R ρ m v x) (hj : v ≠ .aB) : RL ρ m v.cells x.cells := by
 cases h with
 | agg l c hl hr => exact ⟨hl, hr⟩
 | aB => exact absurd rfl hj
 | _ =>
  refine ⟨rfl, fun i a b ha hb => ?_⟩
  cases i with
  | zero => simp [aA.cells, Value.cells] at ha hb; subst ha; subst hb; constructor <;> assumption
  | succ i => simp [aA.cells] at ha
theorem gN (g : Nat → aA) : ∀ (n off : Nat), (cellsOf g off n).length = n
 | 0, _ => rfl
 | n + 1, off => by simp [cellsOf, gN g n]
theorem oK (g : Nat → aA) : ∀ (n off i : Nat), i < n → (cellsOf g off n)[i]? = some (g (off + i))
 | 0, _, _, h => absurd h (Nat.not_lt_zero _)
 | n + 1, off, 0, _ => by simp [cellsOf]
 | n + 1, off, i + 1, h => by
  simp only [cellsOf, List.getElem?_cons_succ]
  rw [oK g n (off + 1) i (by omega)]
  congr 2; omega
theorem gJ : ∀ (l : List aA) (i : Nat) (d : aA), nth l i d = (l[i]?).getD d
 | [], i, d => by simp [nth]
 | a :: l, 0, d => by simp [nth]
 | a :: l, i + 1, d => by simp [nth, gJ l i d]
theorem jL : ∀ (l : List aA) (i : Nat) (v : aA), (put l i v).length = l.length
 | [], _, _ => rfl
 | _ :: _, 0, _ => rfl
 | a :: l, i + 1, v => by simp [put, jL l i v]
theorem tJ : ∀ (l : List aA) (i : Nat) (v : aA) (j : Nat), (put l i v)[j]? = if j = i ∧ i < l.length then some v else l[j]?
 | [], i, v, j => by simp [put]
 | a :: l, 0, v, j => by
  cases j with
  | zero => simp [put]
  | succ j => simp [put]
 | a :: l, i + 1, v, j => by
  cases j with
  | zero => simp [put]
  | succ j => simp [put, tJ l i v j]
theorem bH.gW {c : bH} {off n : Nat} (h : off + n ≤ c.size) : (c.sub off n).length = n := by
 cases c with
 | l xs => simp only [bH.size] at h; simp [bH.sub]; omega
 | f k g => simp [bH.sub, gN]
theorem bH.tG {c : bH} {off n i : Nat} (h : off + n ≤ c.size) (hi : i < n) : (c.sub off n)[i]? = some (c.at (off + i)) := by
 cases c with
 | l xs =>
  simp only [bH.size] at h
  simp only [bH.sub, bH.at, gJ]
  rw [List.getElem?_take_of_lt hi, List.getElem?_drop]
  have : off + i < xs.length := by omega
  simp [List.getElem?_eq_getElem this]
 | f k g => simp only [bH.sub, bH.at]; exact oK g n off i hi
theorem eO (b o n : Nat) : (⟨b, o, none⟩ : Addr).add n = ⟨b, o + n, none⟩ := by unfold Addr.add; split <;> simp_all
theorem Rel.row {P : Program} {ρ : Ren} {m : Mem} {h : Nat → Option Blk} {w : World} (hr : Rel P ρ m h w) {id : Nat} {c : bH} {t : TypeId} (hg : h id = some (.row c t)) {r : RB} (hρ : ρ id = some r) :
  ∃ arr fr, w.heap[r.b]? = some (.cells arr t fr) ∧ (P.info? t).map (·.size) = some r.s ∧ arr.size = r.n ∧ c.size ≤ arr.size ∧ (∀ j x, j < c.size → arr[j]? = some x → R ρ m (c.at j) x) ∧ N9 P t fr arr.size ∧ m r.b = none := by
 obtain ⟨rb, o, h1, h2, h3, h4⟩ := hr.dJ id _ hg
 rw [hρ] at h1
 injection h1 with h1
 subst h1
 cases h3 with
 | row c elem arr fr hs hn hc hrr hf => exact ⟨arr, fr, h2, hs, hn, hc, hrr, hf, h4⟩
theorem Mem.DC {P : Program} {ρ : Ren} {m : Mem} {h : Nat → Option Blk} {w : World} (hr : Rel P ρ m h w) {b o : Nat} {v : Value} (hc : m.cell b o = some v) : w.cell? ⟨b, o, none⟩ = some v := by
 unfold Mem.cell at hc
 cases hb : m b with
 | none => rw [hb] at hc; cases hc
 | some ob =>
  rw [hb] at hc
  cases ob with
  | cells c t f =>
   have := hr.mem b _ hb
   simp only at hc
   simp [World.cell?, this, hc]
  | _ => cases hc
theorem hU {P : Program} {v : aA} {n : Nat} {cs : List aA} {s s' : St} (h : (aZ v n).run s = .ok cs s') (ho : bU s') {ρ : Ren} {m : Mem} {w : World}
  (hr : Rel P ρ m s.heap.get w) {x : Value} (hx : R ρ m v x) :
  ∃ (a : Addr) (xs : List Value), x = .pointer (some a) ∧ (∀ j y, xs[j]? = some y → w.cell? (a.add j) = some y) ∧ xs.length = n ∧ RL ρ m cs xs.toArray ∧ cs.length = n ∧ fS s s' := by
 unfold aZ at h
 split at h
 ·rename_i id off
  obtain ⟨b, s1, h1, h2, ho1, _, _⟩ := M.aJ h ho
  obtain ⟨hg, e1⟩ := eC h1
  obtain ⟨c, t, rfl, h3⟩ := iU h2
  obtain ⟨u, s2, h4, h5, ho2, _, _⟩ := M.aJ h3 ho
  obtain ⟨hb, e2⟩ := eK h4 ho2
  obtain ⟨rfl, rfl⟩ := aC h5
  cases hx with
  | ptr id off r hρ =>
   obtain ⟨arr, fr, ha, hs, hn, hc, hrr, hf, hm⟩ := hr.row hg hρ
   have hle : off + n ≤ c.size := by simpa using hb
   refine ⟨_, (arr.toList.drop off).take n, rfl, ?_, by simp; omega, ⟨?_, ?_⟩, bH.gW hle, e1.trans e2⟩
   ·intro j y hy
    rw [eO]
    have hj : j < n := by
     have := (List.getElem?_eq_some_iff.1 hy).1
     simp at this; omega
    rw [List.getElem?_take_of_lt hj, List.getElem?_drop] at hy
    simp only [World.cell?, ha]
    simpa using hy
   ·simp [bH.gW hle]; omega
   ·intro i a y ha' hy
    have hi : i < n := by
     have := (List.getElem?_eq_some_iff.1 ha').1
     rw [bH.gW hle] at this; exact this
    rw [bH.tG hle hi] at ha'
    injection ha' with ha'
    subst ha'
    simp only [List.getElem?_toArray] at hy
    rw [List.getElem?_take_of_lt hi, List.getElem?_drop] at hy
    exact hrr _ y (by omega) (by simpa using hy)
 ·rename_i f k off
  obtain ⟨u, s2, h4, h5, ho2, _, _⟩ := M.aJ h ho
  obtain ⟨hb, e2⟩ := eK h4 ho2
  obtain ⟨rfl, rfl⟩ := aC h5
  cases hx with
  | ip f k off b o g hg hrr =>
   have hle : off + n ≤ k := by simpa using hb
   refine ⟨_, (List.range n).map fun j => g (off + j), rfl, ?_, by simp, ⟨by simp [gN], ?_⟩, gN _ _ _, e2⟩
   ·intro j y hy
    rw [eO]
    simp only [List.getElem?_map] at hy
    have hj : j < n := by
     cases hj : (List.range n)[j]? with
     | none => rw [hj] at hy; cases hy
     | some q => have := (List.getElem?_eq_some_iff.1 hj).1; simpa using this
    rw [List.getElem?_range hj] at hy
    simp at hy
    subst hy
    have := Mem.DC hr (hg (off + j) (by omega))
    rw [← Nat.add_assoc] at this
    exact this
   ·intro i a y ha' hy
    have hi : i < n := by
     have := (List.getElem?_eq_some_iff.1 ha').1
     rw [gN] at this; exact this
    rw [oK _ _ _ _ hi] at ha'
    injection ha' with ha'
    subst ha'
    simp only [List.getElem?_toArray, List.getElem?_map, List.getElem?_range hi, Option.map_some, Option.some.injEq] at hy
    subst hy
    exact hrr _ (by omega)
 ·exact (aD h).elim
end Go.Am
set_option linter.unusedSimpArgs false
set_option linter.unusedVariables false
namespace Go.Am
open Go
variable {E : Env}
def World.upd (w : World) (b : Nat) (o : Obj) : World := { w with heap := w.heap.setIfInBounds b o }
theorem World.oR (w : World) (b : Nat) (o : Obj) (h : b < w.heap.size) (j : Nat) : (World.upd w b o).heap[j]? = if j = b then some o else w.heap[j]? := by
 simp only [World.upd, Array.getElem?_setIfInBounds]
 by_cases e : b = j
 ·subst e; simp [h]
 ·have : ¬ j = b := fun x => e x.symm
  simp [e, this]
theorem World.pR (w : World) (b : Nat) (o : Obj) : Fr w (World.upd w b o) := ⟨rfl, rfl, rfl, by simp [World.upd]⟩
theorem World.bE (w : World) (b : Nat) (o : Obj) (h : w.heap[b]? = some o) : World.upd w b o = w := by
 obtain ⟨hb, he⟩ := Array.getElem?_eq_some_iff.1 h
 have : w.heap.setIfInBounds b o = w.heap := by
  apply Array.ext_getElem?
  intro i
  rw [Array.getElem?_setIfInBounds]
  by_cases e : b = i
  ·subst e; simp [hb, h, he]
  ·simp [e]
 unfold World.upd
 rw [this]
theorem World.L4 (w : World) (b : Nat) (o o' : Obj) : World.upd (World.upd w b o) b o' = World.upd w b o' := by
 simp only [World.upd]
 congr 1
 apply Array.ext_getElem?
 intro i
 simp only [Array.getElem?_setIfInBounds, Array.size_setIfInBounds]
 by_cases e : b = i
 ·simp [e]
 ·simp [e]
theorem A5 (w : World) (b off : Nat) (v : Value) (arr : Array Value) (t : TypeId) (fr : Nat × Nat) (h : w.heap[b]? = some (.cells arr t fr)) :
  w.setCell ⟨b, off, none⟩ v = World.upd w b (.cells (arr.setIfInBounds off v) t fr) := by
 obtain ⟨hb, he⟩ := Array.getElem?_eq_some_iff.1 h
 unfold World.setCell World.upd
 congr 1
 apply Array.ext_getElem?
 intro i
 rw [Array.getElem?_modify, Array.getElem?_setIfInBounds]
 by_cases e : b = i
 ·subst e
  simp [hb, h, he]
 ·simp [e]
theorem fJ {w : World} {b : Nat} {o : Obj} (h : w.heap[b]? = some o) : b < w.heap.size := (Array.getElem?_eq_some_iff.1 h).1
theorem Rel.upd {P : Program} {ρ : Ren} {m : Mem} {h h' : Nat → Option Blk} {w : World} (hr : Rel P ρ m h w) {id : Nat} {b0 b : Blk} {o : Obj} {r : RB} (hg : h id = some b0) (hρ : ρ id = some r)
  (hb : BR P ρ m r b o) (hh : ∀ j, h' j = if j = id then some b else h j) : Rel P ρ m h' (World.upd w r.b o) where
 dJ := fun j c hj => by
  obtain ⟨rb, o0, k1, k2, k3, k4⟩ := hr.dJ id b0 hg
  rw [hρ] at k1
  injection k1 with k1
  subst k1
  have hlt := fJ k2
  rw [hh j] at hj
  by_cases e : j = id
  ·subst e
   simp only [if_true, Option.some.injEq] at hj
   subst hj
   exact ⟨r, o, hρ, by rw [World.oR _ _ _ hlt]; simp, hb, k4⟩
  ·simp only [e, if_false] at hj
   obtain ⟨rb, o1, q1, q2, q3, q4⟩ := hr.dJ j c hj
   refine ⟨rb, o1, q1, ?_, q3, q4⟩
   rw [World.oR _ _ _ hlt]
   have : rb.b ≠ r.b := fun x => e (hr.inj j id c b0 rb r hj hg q1 hρ x)
   simp [this, q2]
 inj := fun i j b1 b2 r1 r2 h1 h2 h3 h4 h5 => by
  rw [hh] at h1 h2
  have g1 : ∃ c, h i = some c := by
   by_cases e : i = id
   ·subst e; exact ⟨_, hg⟩
   ·simp only [e, if_false] at h1; exact ⟨_, h1⟩
  have g2 : ∃ c, h j = some c := by
   by_cases e : j = id
   ·subst e; exact ⟨_, hg⟩
   ·simp only [e, if_false] at h2; exact ⟨_, h2⟩
  obtain ⟨c1, g1⟩ := g1
  obtain ⟨c2, g2⟩ := g2
  exact hr.inj i j c1 c2 r1 r2 g1 g2 h3 h4 h5
 mem := fun x ob hx => by
  obtain ⟨rb, o0, k1, k2, k3, k4⟩ := hr.dJ id b0 hg
  rw [hρ] at k1
  injection k1 with k1
  subst k1
  rw [World.oR _ _ _ (fJ k2)]
  have : x ≠ r.b := fun e => by subst e; rw [k4] at hx; cases hx
  simp [this, hr.mem x ob hx]
theorem Rel.CT {P : Program} {ρ : Ren} {m : Mem} {h h' : Nat → Option Blk} {w : World} (hr : Rel P ρ m h w) {id : Nat} (hh : ∀ j, h' j = if j = id then none else h j) : Rel P ρ m h' w where
 dJ := fun j c hj => by
  rw [hh j] at hj
  by_cases e : j = id
  ·simp [e] at hj
  ·simp only [e, if_false] at hj
   exact hr.dJ j c hj
 inj := fun i j b1 b2 r1 r2 h1 h2 h3 h4 h5 => by
  rw [hh] at h1 h2
  by_cases e : i = id
  ·simp [e] at h1
  by_cases e2 : j = id
  ·simp [e2] at h2
  simp only [e, e2, if_false] at h1 h2
  exact hr.inj i j b1 b2 r1 r2 h1 h2 h3 h4 h5
 mem := hr.mem
def Ren.put (ρ : Ren) (id : Nat) (r : RB) : Ren := fun j => if j = id then some r else ρ j
theorem gU.put {ρ : Ren} {id : Nat} {r : RB} (h : ρ id = none) : gU ρ (ρ.put id r) := fun j q hj => by
 unfold Ren.put
 by_cases e : j = id
 ·subst e; rw [h] at hj; cases hj
 ·simp [e, hj]
theorem kQ (w : World) (o : Obj) (j : Nat) : (w.alloc o).heap[j]? = if j = w.heap.size then some o else w.heap[j]? := by
 show (w.heap.push o)[j]? = _
 rw [Array.getElem?_push]
theorem Fr.alloc (w : World) (o : Obj) : Fr w (w.alloc o) := ⟨rfl, rfl, rfl, by rw [World.size_alloc]; omega⟩
theorem Fr.drew (w : World) : Fr w { w with drawn := w.drawn + 1 } := ⟨rfl, rfl, rfl, Nat.le_refl _⟩
theorem Rel.drew {P : Program} {ρ : Ren} {m : Mem} {h : Nat → Option Blk} {w : World} (hr : Rel P ρ m h w) : Rel P ρ m h { w with drawn := w.drawn + 1 } := ⟨hr.dJ, hr.inj, hr.mem⟩
theorem MLe.refl (m : Mem) : MLe m m := ⟨fun _ _ _ _ h => h⟩
theorem gU.refl (ρ : Ren) : gU ρ ρ := fun _ _ h => h
theorem Rel.new {P : Program} {ρ : Ren} {m : Mem} {h h' : Nat → Option Blk} {w : World} (hr : Rel P ρ m h w) {id n s : Nat} {b : Blk} {o : Obj} (hρ : ρ id = none)
  (hb : BR P (ρ.put id ⟨w.heap.size, n, s⟩) m ⟨w.heap.size, n, s⟩ b o) (hh : ∀ j, h' j = if j = id then some b else h j) : Rel P (ρ.put id ⟨w.heap.size, n, s⟩) m h' (w.alloc o) where
 dJ := fun j c hj => by
  rw [hh j] at hj
  by_cases e : j = id
  ·subst e
   simp only [if_true, Option.some.injEq] at hj
   subst hj
   refine ⟨_, o, by simp [Ren.put], by rw [kQ]; simp, hb, ?_⟩
   cases hm : m w.heap.size with
   | none => rfl
   | some q => have := fJ (hr.mem _ _ hm); omega
  ·simp only [e, if_false] at hj
   obtain ⟨rb, o1, q1, q2, q3, q4⟩ := hr.dJ j c hj
   refine ⟨rb, o1, gU.put hρ _ _ q1, ?_, q3.mono (gU.put hρ) (.refl m), q4⟩
   rw [kQ]
   have := fJ q2
   have : rb.b ≠ w.heap.size := by omega
   simp [this, q2]
 inj := fun i j b1 b2 r1 r2 h1 h2 h3 h4 h5 => by
  rw [hh] at h1 h2
  unfold Ren.put at h3 h4
  by_cases e : i = id
  ·by_cases e2 : j = id
   ·rw [e, e2]
   ·simp only [e, e2, if_true, if_false, Option.some.injEq] at h2 h3 h4
    obtain ⟨rb, o1, q1, q2, _⟩ := hr.dJ j b2 h2
    rw [q1] at h4
    injection h4 with h4
    subst h4
    have := fJ q2
    subst h3
    simp only at h5
    omega
  ·by_cases e2 : j = id
   ·simp only [e, e2, if_true, if_false, Option.some.injEq] at h1 h3 h4
    obtain ⟨rb, o1, q1, q2, _⟩ := hr.dJ i b1 h1
    rw [q1] at h3
    injection h3 with h3
    subst h3
    have := fJ q2
    subst h4
    simp only at h5
    omega
   ·simp only [e, e2, if_false] at h1 h2 h3 h4
    exact hr.inj i j b1 b2 r1 r2 h1 h2 h3 h4 h5
 mem := fun x ob hx => by
  rw [kQ]
  have := fJ (hr.mem x ob hx)
  have : x ≠ w.heap.size := by omega
  simp [this, hr.mem x ob hx]
theorem nQ (P : Program) (b o : Nat) (t : TypeId) (fr : Nat × Nat) : ∀ (vs : List Value) (i : Nat) (w : World) (arr : Array Value), w.heap[b]? = some (.cells arr t fr) →
  (∀ j, j < arr.size → ¬ (fr.1 ≤ j ∧ j < fr.2)) → o + i + vs.length ≤ arr.size → (∀ v ∈ vs, v.oneCell' = true) →
  ∃ arr', (storeCells ⟨b, o, none⟩ vs i).run P w = .ok () (World.upd w b (.cells arr' t fr)) ∧ arr'.size = arr.size ∧ ∀ j, arr'[j]? = if o + i ≤ j ∧ j < o + i + vs.length then vs[j - (o + i)]? else arr[j]? := by
 intro vs
 induction vs with
 | nil =>
  intro i w arr h hf hl h1
  refine ⟨arr, ?_, rfl, fun j => ?_⟩
  ·rw [World.bE _ _ _ h]; rfl
  ·have : ¬ (o + i ≤ j ∧ j < o + i + ([] : List Value).length) := by simp
   rw [if_neg this]
 | cons v vs ih =>
  intro i w arr h hf hl h1
  simp only [List.length_cons] at hl
  have hv := h1 v (by simp)
  have hc : w.cell? ⟨b, o + i, none⟩ = some arr[o + i] := by
   simp only [World.cell?, h]
   simp [show o + i < arr.size by omega]
  have hz : w.frozen? ⟨b, o + i, none⟩ = false := by
   simp only [World.frozen?, h]
   have := hf (o + i) (by omega)
   simp only [Bool.and_eq_false_iff, decide_eq_false_iff_not]
   by_cases hle : fr.1 ≤ o + i
   ·right; exact fun hlt => this ⟨hle, hlt⟩
   ·left; exact hle
  have hs : (Go.store ((⟨b, o, none⟩ : Addr).add i) v).run P w = .ok () (World.upd w b (.cells (arr.setIfInBounds (o + i) v) t fr)) := by
   rw [eO]
   rw [run_store P w _ v .plain hv, hc]
   simp only [hz, Bool.false_eq_true, if_false]
   rw [A5 _ _ _ _ _ _ _ h]
  have hlt := fJ h
  obtain ⟨arr', e1, e2, e3⟩ := ih (i + 1) (World.upd w b (.cells (arr.setIfInBounds (o + i) v) t fr)) (arr.setIfInBounds (o + i) v) (by rw [World.oR _ _ _ hlt]; simp) (by simpa using hf) (by simp; omega)
   (fun u hu => h1 u (by simp [hu]))
  refine ⟨arr', ?_, by simpa using e2, fun j => ?_⟩
  ·simp only [storeCells, Sem.run_bind]
   rw [hs, Result.andThen_ok, e1, World.L4]
  ·rw [e3 j]
   by_cases c1 : o + (i + 1) ≤ j ∧ j < o + (i + 1) + vs.length
   ·have c2 : o + i ≤ j ∧ j < o + i + (v :: vs).length := by simp; omega
    rw [if_pos c1, if_pos c2]
    have : j - (o + i) = (j - (o + (i + 1))) + 1 := by omega
    rw [this, List.getElem?_cons_succ]
   ·rw [if_neg c1]
    by_cases c3 : j = o + i
    ·subst c3
     have c2 : o + i ≤ o + i ∧ o + i < o + i + (v :: vs).length := by simp
     rw [if_pos c2]
     simp [show o + i < arr.size by omega]
    ·have c2 : ¬ (o + i ≤ j ∧ j < o + i + (v :: vs).length) := by simp only [List.length_cons]; omega
     rw [if_neg c2, Array.getElem?_setIfInBounds]
     simp [show o + i ≠ j by omega]
theorem nO : ∀ (vs : List aA) (c : bH) (off : Nat), (kV c off vs).size = c.size
 | [], _, _ => rfl
 | v :: vs, c, off => by
  simp only [kV]
  rw [nO vs]
  cases c <;> simp [bH.set, bH.size, jL]
theorem bH.OZ (c : bH) (i : Nat) (v : aA) (j : Nat) (hi : i < c.size) : (c.set i v).at j = if j = i then v else c.at j := by
 cases c with
 | l xs =>
  simp only [bH.size] at hi
  simp only [bH.set, bH.at, gJ, tJ]
  by_cases e : j = i
  ·simp [e, hi]
  ·simp [e]
 | f n g =>
  simp only [bH.set, bH.at]
  by_cases e : j = i
  ·subst e; simp
  ·have : j.beq i = false := by
    cases hb : j.beq i with
    | false => rfl
    | true => exact absurd (Nat.eq_of_beq_eq_true hb) e
   simp [this, e]
theorem wW : ∀ (vs : List aA) (c : bH) (off j : Nat), off + vs.length ≤ c.size → (kV c off vs).at j = if off ≤ j ∧ j < off + vs.length then (vs[j - off]?).getD .aB else c.at j
 | [], c, off, j, _ => by
  have : ¬ (off ≤ j ∧ j < off + ([] : List aA).length) := by simp only [List.length_nil]; omega
  rw [if_neg this]; rfl
 | v :: vs, c, off, j, h => by
  simp only [List.length_cons] at h
  simp only [kV]
  rw [wW vs (c.set off v) (off + 1) j (by cases c <;> simp_all [bH.set, bH.size, jL] <;> omega)]
  rw [bH.OZ _ _ _ _ (by omega)]
  by_cases c1 : off + 1 ≤ j ∧ j < off + 1 + vs.length
  ·have c2 : off ≤ j ∧ j < off + (v :: vs).length := by simp; omega
   rw [if_pos c1, if_pos c2]
   have : j - off = (j - (off + 1)) + 1 := by omega
   rw [this, List.getElem?_cons_succ]
  ·rw [if_neg c1]
   by_cases c3 : j = off
   ·subst c3
    have c2 : j ≤ j ∧ j < j + (v :: vs).length := by simp
    rw [if_pos c2]
    simp
   ·have c2 : ¬ (off ≤ j ∧ j < off + (v :: vs).length) := by simp only [List.length_cons]; omega
    rw [if_neg c2, if_neg c3]
theorem R.bK {ρ : Ren} {m : Mem} {v : aA} {x : Value} (h : R ρ m v x) (h1 : bK v = true) : x.oneCell' = true := by
 cases h <;> first | rfl | simp [Am.bK] at h1
theorem iG {P : Program} {v : aA} {vs : List aA} {u : Unit} {s s' : St} (h : (dS v vs).run s = .ok u s') (ho : bU s') {ρ : Ren} {m : Mem} {w : World}
  (hr : Rel P ρ m s.heap.get w) {x : Value} (hx : R ρ m v x) {xs : List Value} (hl : vs.length = xs.length) (hxs : ∀ (i : Nat) a b, vs[i]? = some a → xs[i]? = some b → R ρ m a b) :
  ∃ a w', x = .pointer (some a) ∧ (storeCells a xs).run P w = .ok () w' ∧ eW P ρ m s w ρ m s' w' := by
 unfold dS at h
 split at h
 ·rename_i id off
  obtain ⟨b, s1, h1, h2, ho1, _, _⟩ := M.aJ h ho
  obtain ⟨hg, e1⟩ := eC h1
  obtain ⟨c, t, rfl, h3⟩ := iU h2
  obtain ⟨_, s2, h4, h5, ho2, _, _⟩ := M.aJ h3 ho
  obtain ⟨hb, e2⟩ := eK h4 ho2
  cases hall : vs.all bK with
  | false => rw [hall] at h5; exact (aD h5).elim
  | true =>
   rw [hall] at h5
   obtain ⟨_, hn, hset⟩ := nL h5
   have es := e1.trans e2
   cases hx with
   | ptr id off r hρ =>
    obtain ⟨arr, fr, ha, hs, hn', hc, hrr, hf, hm⟩ := hr.row hg hρ
    have hle : off + vs.length ≤ c.size := by simpa using hb
    have hone : ∀ y ∈ xs, y.oneCell' = true := by
     intro y hy
     obtain ⟨i, hi⟩ := List.getElem?_of_mem hy
     have hlt := (List.getElem?_eq_some_iff.1 hi).1
     have hv : vs[i]? = some vs[i] := List.getElem?_eq_getElem (by omega)
     exact (hxs i _ _ hv hi).bK (List.all_eq_true.1 hall _ (List.getElem_mem _))
    obtain ⟨arr', g1, g2, g3⟩ := nQ P r.b off t fr xs 0 w arr ha hf.out (by omega) hone
    refine ⟨_, _, rfl, g1, ⟨.refl ρ, fun _ h => .inl h, fun _ _ h => h, ?_, World.pR _ _ _, by rw [hn, es.next]; exact Nat.le_refl _⟩⟩
    refine hr.upd hg hρ (.row r (kV c off vs) t arr' fr hs (by omega) (by rw [nO]; omega) ?_ (by rw [g2]; exact hf)) (fun j => by rw [hset j, es.heap])
    intro j y hj hy
    rw [nO] at hj
    rw [g3 j] at hy
    rw [wW vs c off j hle]
    by_cases c1 : off ≤ j ∧ j < off + vs.length
    ·have c2 : off + 0 ≤ j ∧ j < off + 0 + xs.length := by omega
     rw [if_pos c2] at hy
     rw [if_pos c1]
     have hv : vs[j - off]? = some vs[j - off] := List.getElem?_eq_getElem (by omega)
     rw [hv]
     exact hxs (j - off) _ _ hv (by simpa using hy)
    ·have c2 : ¬ (off + 0 ≤ j ∧ j < off + 0 + xs.length) := by omega
     rw [if_neg c2] at hy
     rw [if_neg c1]
     exact hrr j y hj hy
 ·exact (aD h).elim
theorem qB {P : Program} {c : bH} {t : TypeId} {id : Nat} {s s' : St} (h : (qC (.row c t)).run s = .ok id s') {ρ : Ren} {m : Mem} {w : World}
  (hr : Rel P ρ m s.heap.get w) (hf : eX ρ s s') {i : TI} (ht : TOk P t i) {arr : Array Value} (hc : c.size ≤ arr.size) (hrr : ∀ j x, j < c.size → arr[j]? = some x → R ρ m (c.at j) x) :
  id = s.next ∧ eW P ρ m s w (ρ.put id ⟨w.heap.size, arr.size, i.size⟩) m s' (w.alloc (.cells arr t)) := by
 obtain ⟨h1, h2, h3⟩ := yS h
 have hρ : ρ id = none := hf id ⟨by omega, by omega⟩
 refine ⟨h1, ⟨gU.put hρ, fun j hj => ?_, fun _ _ h => h, ?_, .alloc _ _, by omega⟩⟩
 ·unfold Ren.put at hj
  by_cases e : j = id
  ·exact .inr ⟨by omega, by omega⟩
  ·simp only [e, if_false] at hj
   exact .inl hj
 ·exact hr.new hρ (.row _ c t arr (0, 0) ht.kO rfl hc (fun j x hj hx => (hrr j x hj hx).mono (gU.put hρ) (.refl m)) (.inl rfl)) h3
end Go.Am
set_option linter.unusedSimpArgs false
set_option linter.unusedVariables false
namespace Go.Am
open Go
variable {E : Env}
def Out (P : Program) (ρ : Ren) (m : Mem) (s : St) (w : World) (s' : St) (v : aA) (res : Result Value) : Prop :=
 ∃ x w' ρ', res = .ok x w' ∧ eW P ρ m s w ρ' m s' w' ∧ R ρ' m v x
theorem eW.bS {P : Program} {ρ : Ren} {m : Mem} {s s' : St} {w : World} (h : Rel P ρ m s.heap.get w) (e : fS s s') : eW P ρ m s w ρ m s' w :=
 eW.same h (fun id => by rw [e.heap]) e.next
theorem Out.same {P : Program} {ρ : Ren} {m : Mem} {s s' : St} {w : World} {v : aA} {x : Value} (h : Rel P ρ m s.heap.get w) (e : fS s s') (hx : R ρ m v x) : Out P ρ m s w s' v (.ok x w) :=
 ⟨x, w, ρ, rfl, .bS h e, hx⟩
section
variable {ρ : Ren} {m : Mem} {s s' : St} {w : World} {v : aA}
theorem kY {P : Program} {w : World} {a : Addr} {n : Nat} {xs : List Value} (h : ∀ j y, xs[j]? = some y → w.cell? (a.add j) = some y) (hl : xs.length = n) : (loadCells a n).run P w = .ok xs.toArray w := by
 subst hl
 exact run_loadCells_list w a xs h
theorem E0 {t : TypeId} {a : aA} (h : (load E t a).run s = .ok v s') (ho : bU s') (hr : Rel E.P ρ m s.heap.get w) {x : Value} (hx : R ρ m a x) :
  ∃ ad y, x = .pointer (some ad) ∧ (loadVar t ad).run E.P w = .ok y w ∧ R ρ m v y ∧ fS s s' := by
 obtain ⟨i, s1, h1, h2⟩ := M.aK h
 obtain ⟨hi, rfl⟩ := kR h1
 have e1 := hi.wX (w := w)
 have e2 := hi.dO (w := w)
 cases hb : eR i.desc with
 | true =>
  rw [hb] at h2 e1
  obtain ⟨cs, s2, h3, h4, ho2, _, _⟩ := M.aJ h2 ho
  obtain ⟨rfl, rfl⟩ := aC h4
  obtain ⟨ad, xs, rfl, k1, k2, k3, k4, k5⟩ := hU h3 ho2 hr hx
  refine ⟨ad, _, rfl, ?_, .agg _ _ k3.len k3.at_, k5⟩
  simp only [loadVar, Sem.run_bind, Sem.run_pure, Result.andThen_ok, e1, e2, if_true, kY k1 k2]
 | false =>
  rw [hb] at h2 e1
  obtain ⟨cs, s2, h3, h4, ho2, _, _⟩ := M.aJ h2 ho
  have : ∃ c, cs = [c] ∧ v = c ∧ s' = s2 := by
   unfold eJ at h4
   split at h4
   ·obtain ⟨rfl, rfl⟩ := aC h4; exact ⟨_, rfl, rfl, rfl⟩
   ·exact (aD h4).elim
  obtain ⟨c, rfl, rfl, rfl⟩ := this
  obtain ⟨ad, xs, rfl, k1, k2, k3, k4, k5⟩ := hU h3 ho2 hr hx
  obtain ⟨y, rfl⟩ : ∃ y, xs = [y] := by
   cases xs with
   | nil => cases k2
   | cons y l => cases l with
    | nil => exact ⟨y, rfl⟩
    | cons z l => simp at k2
  have hy := k1 0 y rfl
  have ha : ad.add 0 = ad := by simp [Addr.add]
  rw [ha] at hy
  refine ⟨ad, y, rfl, ?_, k3.at_ 0 _ _ rfl rfl, k5⟩
  simp only [loadVar, Sem.run_bind, Sem.run_pure, Result.andThen_ok, e1, Bool.false_eq_true, if_false, run_load, hy]
theorem IL {t : TypeId} {a : aA} (h : (load E t a).run s = .ok v s') (ho : bU s') (hr : Rel E.P ρ m s.heap.get w) {x : Value} (hx : R ρ m a x) :
  Out E.P ρ m s w s' v ((Instr.loadAt t x).run E.P w) := by
 obtain ⟨ad, y, rfl, h1, h2, h3⟩ := E0 h ho hr hx
 simp only [Instr.loadAt, Instr.sureAddr, Sem.run_bind, Sem.run_pure, Result.andThen_ok, h1]
 exact .same hr h3 h2
theorem ER {t : TypeId} {a v : aA} {u : Unit} (h : (store E t a v).run s = .ok u s') (ho : bU s') (hr : Rel E.P ρ m s.heap.get w) {x y : Value} (hx : R ρ m a x) (hy : R ρ m v y) :
  ∃ w', (Instr.storeAt t x y).run E.P w = .ok () w' ∧ eW E.P ρ m s w ρ m s' w' := by
 obtain ⟨i, s1, h1, h2⟩ := M.aK h
 obtain ⟨hi, rfl⟩ := kR h1
 have e2 := hi.dO (w := w)
 cases hb : v.cells.length.beq i.size with
 | false => rw [hb] at h2; exact (aD h2).elim
 | true =>
  rw [hb] at h2
  have hn := Nat.eq_of_beq_eq_true hb
  have hj : v ≠ .aB := by
   rintro rfl
   simp only [aA.cells] at h2
   unfold dS at h2
   split at h2
   ·obtain ⟨b, s1, k1, k2, ho1, _, _⟩ := M.aJ h2 ho
    obtain ⟨c, t, rfl, k3⟩ := iU k2
    obtain ⟨_, s2, k4, k5, ho2, _, _⟩ := M.aJ k3 ho
    exact (aD k5).elim
   ·exact (aD h2).elim
  have hc := hy.cells hj
  obtain ⟨ad, w', rfl, k1, k2⟩ := iG h2 ho hr hx (xs := y.cells.toList) (by simpa using hc.len) (fun i p q hp hq => hc.at_ i p q hp (by simpa using hq))
  refine ⟨w', ?_, k2⟩
  have hsz : y.cells.size = i.size := by rw [← hc.len]; exact hn
  simp only [Instr.storeAt, Instr.sureAddr, storeVar, Sem.run_bind, Sem.run_pure, Result.andThen_ok, e2, hsz, ne_eq, not_true_eq_false, if_false, k1]
theorem uN {t : TypeId} {v v' : aA} (h : (alloc E t v).run s = .ok v' s') (ho : bU s') (hr : Rel E.P ρ m s.heap.get w) (hf : eX ρ s s') {y : Value} (hy : R ρ m v y) :
  ∃ a w' ρ', (newVar t y).run E.P w = .ok a w' ∧ eW E.P ρ m s w ρ' m s' w' ∧ R ρ' m v' (.pointer (some a)) := by
 unfold alloc at h
 split at h
 ·exact (aD h).elim
 rename_i hjb
 have hj : v ≠ .aB := by rintro rfl; cases hjb
 obtain ⟨id, s1, h1, h2⟩ := M.aK h
 obtain ⟨rfl, rfl⟩ := aC h2
 obtain ⟨i, s2, h3, h4⟩ := M.aK h1
 obtain ⟨hi, rfl⟩ := kR h3
 have hc := hy.cells hj
 obtain ⟨e, hp⟩ := qB h4 hr hf hi (arr := y.cells) (by simp [bH.size, hc.len]) (fun j z hjz hz => by
  simp only [bH.size] at hjz
  simp only [bH.at, gJ, List.getElem?_eq_getElem hjz, Option.getD_some]
  exact hc.at_ j _ z (List.getElem?_eq_getElem hjz) hz)
 refine ⟨⟨w.heap.size, 0, none⟩, _, _, ?_, hp, .ptr id 0 ⟨w.heap.size, y.cells.size, i.size⟩ (by simp [Ren.put])⟩
 simp only [newVar, Go.newRow, Sem.run_bind, run_newObj_alloc, Result.andThen_ok, Sem.run_pure]
end
end Go.Am
set_option linter.unusedSimpArgs false
set_option linter.unusedVariables false
namespace Go.Am
open Go
variable {E : Env}
section
variable {ρ : Ren} {m : Mem} {s s' : St} {w : World} {v : aA}
theorem oF (off : Nat) : ∀ (l : List (Value × Nat)) (cs : Array Value), (l.foldl (fun cs (c, j) => cs.setIfInBounds (off + j) c) cs).size = cs.size
 | [], _ => rfl
 | p :: l, cs => by simp [List.foldl_cons, oF off l]
theorem pO (off : Nat) : ∀ (l : List Value) (k : Nat) (cs : Array Value) (i : Nat), off + k + l.length ≤ cs.size →
  ((l.zipIdx k).foldl (fun cs (c, j) => cs.setIfInBounds (off + j) c) cs)[i]? = if off + k ≤ i ∧ i < off + k + l.length then l[i - (off + k)]? else cs[i]?
 | [], k, cs, i, _ => by
  have : ¬ (off + k ≤ i ∧ i < off + k + ([] : List Value).length) := by simp only [List.length_nil]; omega
  rw [if_neg this]; rfl
 | c :: l, k, cs, i, h => by
  simp only [List.length_cons] at h
  simp only [List.zipIdx_cons, List.foldl_cons]
  rw [pO off l (k + 1) _ i (by simp; omega)]
  by_cases c1 : off + (k + 1) ≤ i ∧ i < off + (k + 1) + l.length
  ·have c2 : off + k ≤ i ∧ i < off + k + (c :: l).length := by simp only [List.length_cons]; omega
   rw [if_pos c1, if_pos c2]
   have : i - (off + k) = (i - (off + (k + 1))) + 1 := by omega
   rw [this, List.getElem?_cons_succ]
  ·rw [if_neg c1]
   by_cases c3 : i = off + k
   ·subst c3
    have c2 : off + k ≤ off + k ∧ off + k < off + k + (c :: l).length := by simp
    rw [if_pos c2]
    simp [show off + k < cs.size by omega]
   ·have c2 : ¬ (off + k ≤ i ∧ i < off + k + (c :: l).length) := by simp only [List.length_cons]; omega
    rw [if_neg c2, Array.getElem?_setIfInBounds]
    simp [show off + k ≠ i by omega]
inductive RP (ρ : Ren) (m : Mem) : List (Nat × aA) → List (Nat × Value) → Prop
 | nil : RP ρ m [] []
 | cons (i : Nat) (v : aA) (x : Value) (l : List (Nat × aA)) (l' : List (Nat × Value)) (h : R ρ m v x) (hl : RP ρ m l l') : RP ρ m ((i, v) :: l) ((i, x) :: l')
theorem wH {cs vs : List aA} {off : Nat} (h : off + vs.length ≤ cs.length) : (cs.take off ++ vs ++ cs.drop (off + vs.length)).length = cs.length := by
 simp only [List.length_append, List.length_take, List.length_drop]; omega
theorem BZ {cs vs : List aA} {off : Nat} (h : off + vs.length ≤ cs.length) (i : Nat) :
  (cs.take off ++ vs ++ cs.drop (off + vs.length))[i]? = if off ≤ i ∧ i < off + vs.length then vs[i - off]? else cs[i]? := by
 by_cases c1 : i < off
 ·have c2 : ¬ (off ≤ i ∧ i < off + vs.length) := by omega
  rw [if_neg c2, List.append_assoc, List.getElem?_append_left (by simp; omega), List.getElem?_take_of_lt c1]
 ·by_cases c3 : i < off + vs.length
  ·rw [if_pos ⟨by omega, c3⟩, List.getElem?_append_left (by simp; omega), List.getElem?_append_right (by simp; omega)]
   congr 1; simp; omega
  ·have c2 : ¬ (off ≤ i ∧ i < off + vs.length) := by omega
   rw [if_neg c2, List.getElem?_append_right (by simp; omega), List.getElem?_drop]
   congr 1; simp; omega
theorem rI {place : Nat → Option (Nat × Nat)} : ∀ (parts : List (Nat × aA)) (parts' : List (Nat × Value)) (cs : List aA) (xs : Array Value) (out : List aA), RP ρ m parts parts' → RL ρ m cs xs →
  fill place cs parts = some out → ∃ out', Instr.fill place xs parts' = some out' ∧ RL ρ m out out'
 | [], _, cs, xs, out, hp, hc, h => by
  cases hp
  simp only [fill, Option.some.injEq] at h
  subst h
  exact ⟨xs, rfl, hc⟩
 | (i, v) :: parts, _, cs, xs, out, hp, hc, h => by
  cases hp with
  | cons _ _ x _ l' hv hl =>
   simp only [fill] at h
   cases hpl : place i with
   | none => rw [hpl] at h; cases h
   | some q =>
    obtain ⟨off, size⟩ := q
    rw [hpl] at h
    simp only at h
    split at h
    ·rename_i hcond
     simp only [Bool.and_eq_true] at hcond
     have hsz := Nat.eq_of_beq_eq_true hcond.1.2
     have hle := Nat.le_of_ble_eq_true hcond.2
     have hvc := hv.cells (by rintro rfl; simp [eI] at hcond)
     have hlen : x.cells.size = v.cells.length := hvc.len.symm
     have hcl : xs.size = cs.length := hc.len.symm
     simp only [Instr.fill, hpl]
     have e1 : ¬ (x.cells.size ≠ size ∨ off + x.cells.size > xs.size) := by omega
     have e1' : (x.cells.size ≠ size || decide (off + x.cells.size > xs.size)) = false := by
      simp only [Bool.or_eq_false_iff, decide_eq_false_iff_not, ne_eq]
      omega
     simp only [e1', Bool.false_eq_true, if_false]
     refine rI parts l' _ _ out hl ⟨?_, ?_⟩ h
     ·rw [wH hle]
      simp only [← Array.foldl_toList, Array.toList_zipIdx, oF, hcl]
     ·intro k a b ha hb
      rw [BZ hle] at ha
      simp only [← Array.foldl_toList, Array.toList_zipIdx] at hb
      rw [pO off x.cells.toList 0 xs k (by simp; omega)] at hb
      by_cases c1 : off ≤ k ∧ k < off + v.cells.length
      ·rw [if_pos c1] at ha
       have c2 : off + 0 ≤ k ∧ k < off + 0 + x.cells.toList.length := by simp; omega
       rw [if_pos c2] at hb
       exact hvc.at_ (k - off) a b ha (by simpa using hb)
      ·rw [if_neg c1] at ha
       have c2 : ¬ (off + 0 ≤ k ∧ k < off + 0 + x.cells.toList.length) := by simp; omega
       rw [if_neg c2] at hb
       exact hc.at_ k a b ha hb
    ·cases h
theorem C0 : ∀ (fs : List Field) {ps : List (Nat × Nat)} {s s' : St}, (tH E fs).run s = .ok ps s' → s' = s ∧ ∀ w, ((fs.toArray.mapM fun f => do pure (f.offset, ← Go.sizeOf f.type) : Sem (Array (Nat × Nat))).run E.P w) = .ok ps.toArray w := by
 intro fs
 suffices H : ∀ (fs : List Field) {ps : List (Nat × Nat)} {s s' : St}, (tH E fs).run s = .ok ps s' → s' = s ∧ ∀ w, ((fs.mapM fun f => do pure (f.offset, ← Go.sizeOf f.type) : Sem (List (Nat × Nat))).run E.P w) = .ok ps w by
  intro ps s s' h
  obtain ⟨h1, h2⟩ := H fs h
  refine ⟨h1, fun w => ?_⟩
  rw [List.mapM_toArray]
  simp only [Sem.run_map, h2 w, Result.andThen_ok]
 intro fs
 induction fs with
 | nil =>
  intro ps s s' h
  obtain ⟨rfl, rfl⟩ := aC h
  exact ⟨rfl, fun w => rfl⟩
 | cons f fs ih =>
  intro ps s s' h
  obtain ⟨n, s1, h1, h2⟩ := M.aK h
  obtain ⟨⟨i, hi, rfl⟩, rfl⟩ := gB h1
  obtain ⟨r, s2, h3, h4⟩ := M.aK h2
  obtain ⟨rfl, rfl⟩ := aC h4
  obtain ⟨rfl, h5⟩ := ih h3
  refine ⟨rfl, fun w => ?_⟩
  simp only [List.mapM_cons, Sem.run_bind, hi.dO, Result.andThen_ok, Sem.run_pure, h5 w]
end
end Go.Am
set_option linter.unusedSimpArgs false
set_option linter.unusedVariables false
namespace Go.Am
open Go
variable {E : Env}
section
variable {ρ : Ren} {m : Mem} {s s' : St} {w : World} {v : aA}
theorem R.iF {l : List aA} {x : Value} (h : R ρ m (.agg l) x) : ∃ c, x = .agg c ∧ RL ρ m l c := by
 cases h with
 | agg l c hl hr => exact ⟨c, rfl, hl, hr⟩
theorem R.cY {k : IntKind} {n : Int} {x : Value} (h : R ρ m (.int k n) x) : x = .int k n := by cases h; rfl
theorem R.gX {l : List UInt8} {x : Value} (h : R ρ m (.str l) x) : x = .string ⟨⟨l⟩⟩ := by cases h; rfl
theorem R.bool_inv {b : Bool} {x : Value} (h : R ρ m (.bool b) x) : x = .bool b := by cases h; rfl
theorem R.oM {b : Bool} {x : Value} (h : R ρ m (.gG b) x) : x = .bool b := by cases h; rfl
theorem TOk.rZ {P : Program} {t : TypeId} {i : TI} (hi : TOk P t i) {z : Value} (h : ofValue z = i.zero) : RL ρ m i.zero.cells z.cells :=
 R.cells (by rw [← h]; exact gZ z) (fun e => by have := hi.zj; rw [e] at this; cases this)
theorem G1 {t : TypeId} {parts : List (Nat × aA)} {parts' : List (Nat × Value)} (h : (build E t parts).run s = .ok v s') (ho : bU s') (hr : Rel E.P ρ m s.heap.get w) (hp : RP ρ m parts parts') :
  Out E.P ρ m s w s' v ((Instr.build t parts'.toArray).run E.P w) := by
 obtain ⟨i, s1, h1, h2⟩ := M.aK h
 obtain ⟨hi, rfl⟩ := kR h1
 obtain ⟨z, hz, hzi⟩ := hi.kW (w := w)
 have hu := hi.dT (w := w)
 have hzc := hi.rZ (ρ := ρ) (m := m) hzi
 cases hd : i.desc with
 | struct fs =>
  rw [hd] at h2 hu
  obtain ⟨ps, s2, h3, h4⟩ := M.aK h2
  obtain ⟨rfl, h7⟩ := C0 _ h3
  obtain ⟨cs, s3, h5, h6⟩ := M.aK h4
  obtain ⟨h5g, rfl⟩ := j3 h5
  obtain ⟨rfl, rfl⟩ := aC h6
  obtain ⟨out, k1, k2⟩ := rI parts parts' _ _ cs hp hzc h5g
  have h8 := h7 w
  simp only [Instr.build, Sem.run_bind, hz, hu, Result.andThen_ok, h8, List.getElem?_toArray, k1, Sem.run_pure]
  exact .same hr (.refl _) (.agg _ _ k2.len k2.at_)
 | array n e =>
  rw [hd] at h2 hu
  obtain ⟨n, s2, h3, h4⟩ := M.aK h2
  obtain ⟨⟨j, hj, rfl⟩, rfl⟩ := gB h3
  obtain ⟨cs, s3, h5, h6⟩ := M.aK h4
  obtain ⟨h5g, rfl⟩ := j3 h5
  obtain ⟨rfl, rfl⟩ := aC h6
  obtain ⟨out, k1, k2⟩ := rI parts parts' _ _ cs hp hzc h5g
  simp only [Instr.build, Sem.run_bind, hz, hu, Result.andThen_ok, hj.dO, k1, Sem.run_pure]
  exact .same hr (.refl _) (.agg _ _ k2.len k2.at_)
 | _ => rw [hd] at h2; exact (aD h2).elim
theorem lO (z : List aA) : ∀ n, (gI z n).length = n * z.length
 | 0 => by simp [gI]
 | n + 1 => by simp [gI, lO z n, Nat.succ_mul, Nat.add_comm]
theorem A9 (z : List aA) : ∀ (n i : Nat), i < n * z.length → (gI z n)[i]? = z[i % z.length]?
 | 0, i, h => by simp at h
 | n + 1, i, h => by
  simp only [gI]
  by_cases hi : i < z.length
  ·rw [List.getElem?_append_left hi, Nat.mod_eq_of_lt hi]
  ·have hz : z.length ≤ i := by omega
   rw [List.getElem?_append_right hz, A9 z n (i - z.length) (by rw [Nat.succ_mul] at h; omega), ← Nat.mod_eq_sub_mod hz]
theorem qX {zs : List aA} {zx : Array Value} (hz : RL ρ m zs zx) (n : Nat) : RL ρ m (gI zs n) ((Array.range (n * zx.size)).map (zx[· % zx.size]!)) := by
 refine ⟨by simp [lO, hz.len], fun i a b ha hb => ?_⟩
 have hi : i < n * zs.length := by
  have := (List.getElem?_eq_some_iff.1 ha).1
  rwa [lO] at this
 rw [A9 _ _ _ hi] at ha
 have hpos : 0 < zs.length := by
  rcases Nat.eq_zero_or_pos zs.length with h0 | h0
  ·rw [h0] at hi; omega
  ·exact h0
 have hb' : b = zx[i % zx.size]! := by
  have hi' : i < n * zx.size := by rw [← hz.len]; exact hi
  simp only [Array.getElem?_map, Array.getElem?_range, hi', if_true, Option.map_some, Option.some.injEq] at hb
  exact hb.symm
 have hlt : i % zx.size < zx.size := Nat.mod_lt _ (by rw [← hz.len]; exact hpos)
 have e : zx[i % zx.size]? = some b := by
  rw [hb', Array.getElem?_eq_getElem hlt, getElem!_pos zx _ hlt]
 rw [hz.len] at ha
 exact hz.at_ _ a b ha e
theorem rD {t : TypeId} {cs : List aA} {id : Nat} (h : (newRow E t cs).run s = .ok id s') (hr : Rel E.P ρ m s.heap.get w) (hf : eX ρ s s') {arr : Array Value} (hc : RL ρ m cs arr) :
  ∃ i, TOk E.P t i ∧ eW E.P ρ m s w (ρ.put id ⟨w.heap.size, arr.size, i.size⟩) m s' (w.alloc (.cells arr t)) := by
 obtain ⟨i, s1, h1, h2⟩ := M.aK h
 obtain ⟨hi, rfl⟩ := kR h1
 obtain ⟨_, hp⟩ := qB h2 hr hf hi (arr := arr) (by simp [bH.size, hc.len]) (fun j z hjz hz => by
  simp only [bH.size] at hjz
  simp only [bH.at, gJ, List.getElem?_eq_getElem hjz, Option.getD_some]
  exact hc.at_ j _ z (List.getElem?_eq_getElem hjz) hz)
 exact ⟨i, hi, hp⟩
theorem kX (P : Program) (w : World) (t : TypeId) (arr : Array Value) : (Go.newRow t arr).run P w = .ok ⟨w.heap.size, 0, none⟩ (w.alloc (.cells arr t)) := by
 simp only [Go.newRow, Sem.run_bind, run_newObj_alloc, Result.andThen_ok, Sem.run_pure]
theorem vU {t : TypeId} {len : Nat} {parts : List (Nat × aA)} {parts' : List (Nat × Value)} (h : (buildSlice E t len parts).run s = .ok v s') (ho : bU s') (hr : Rel E.P ρ m s.heap.get w) (hf : eX ρ s s')
  (hp : RP ρ m parts parts') : Out E.P ρ m s w s' v ((Instr.buildSlice t len parts'.toArray).run E.P w) := by
 obtain ⟨d, s1, h1, h2⟩ := M.aK h
 obtain ⟨⟨i, hi, rfl⟩, rfl⟩ := eY h1
 have hu := hi.dT (w := w)
 cases hd : i.desc with
 | slice e =>
  rw [hd] at h2 hu
  obtain ⟨j, s2, h3, h4⟩ := M.aK h2
  obtain ⟨hj, rfl⟩ := kR h3
  cases hb : (len * j.size).ble 16777216 with
  | false => rw [hb] at h4; exact (aD h4).elim
  | true =>
   rw [hb] at h4
   have hle := Nat.le_of_ble_eq_true hb
   obtain ⟨cs, s3, h5, h6⟩ := M.aK h4
   obtain ⟨h5g, rfl⟩ := j3 h5
   obtain ⟨id, s4, h7, h8⟩ := M.aK h6
   obtain ⟨rfl, rfl⟩ := aC h8
   obtain ⟨z, hz, hzi⟩ := hj.kW (w := w)
   have hzc := hj.rZ (ρ := ρ) (m := m) hzi
   have hzs : z.cells.size = j.size := by rw [← hzc.len, hj.zR]
   have hle' : ¬ (len * j.size > 2 ^ 24) := by omega
   have hreps := qX hzc len
   rw [hzs] at hreps
   obtain ⟨out, k1, k2⟩ := rI parts parts' _ _ cs hp hreps h5g
   obtain ⟨j', hj', hp'⟩ := rD h7 hr hf k2
   have ej : j'.size = j.size := by
    have := hj'.kO
    rw [hj.kO] at this
    injection this with this
    exact this.symm
   refine ⟨_, _, _, ?_, hp', .slx id 0 len len j.size ⟨w.heap.size, out.size, j'.size⟩ (by simp [Ren.put]) (Nat.le_refl _)⟩
   simp only [Instr.buildSlice, Sem.run_bind, hu, hj.dO, Result.andThen_ok, hle', if_false]
   by_cases h0 : len * j.size = 0
   ·have harr : ((Array.range (len * j.size)).map ((#[] : Array Value)[· % (#[] : Array Value).size]!)) = ((Array.range (len * j.size)).map (z.cells[· % j.size]!)) := by rw [h0]; simp
    rw [if_pos h0]
    simp only [Sem.run_bind, Result.andThen_ok, Sem.run_pure]
    rw [harr]
    simp only [k1, kX, Sem.run_bind, Result.andThen_ok, Sem.run_pure]
   ·rw [if_neg h0]
    simp only [Sem.run_bind, Result.andThen_ok, Sem.run_pure, hz, hzs, k1, kX]
 | _ => rw [hd] at h2; exact (aD h2).elim
theorem xF {n : Nat} {a : aA} (h : (aM n a).run s = .ok v s') {x : Value} (hx : R ρ m a x) : s' = s ∧ ∃ ad, x = .pointer (some ad) ∧ ad.spot = none ∧ R ρ m v (.pointer (some ⟨ad.block, ad.off + n, none⟩)) := by
 unfold aM at h
 split at h
 ·obtain ⟨rfl, rfl⟩ := aC h
  cases hx with
  | ptr id off r hρ => exact ⟨rfl, _, rfl, rfl, .ptr _ _ r hρ⟩
 ·rename_i f k off
  obtain ⟨rfl, rfl⟩ := aC h
  cases hx with
  | ip _ _ _ b o g' hg hrr =>
   refine ⟨rfl, _, rfl, rfl, ?_⟩
   have := R.ip (ρ := ρ) (m := m) f k (off + n) b o g' hg hrr
   rw [← Nat.add_assoc] at this
   exact this
 ·exact (aD h).elim
theorem BP {a : Addr} (h : a.spot = none) (n : Nat) : a.add n = ⟨a.block, a.off + n, none⟩ := by
 obtain ⟨b, o, sp⟩ := a
 simp only at h
 subst h
 exact eO b o n
theorem wO {t : TypeId} {a : aA} {i : Nat} (h : (fieldAddr E t a i).run s = .ok v s') (hr : Rel E.P ρ m s.heap.get w) {x : Value} (hx : R ρ m a x) :
  Out E.P ρ m s w s' v ((Instr.fieldAt t x i).run E.P w) := by
 obtain ⟨d, s1, h1, h2⟩ := M.aK h
 obtain ⟨⟨i0, hi, rfl⟩, rfl⟩ := eY h1
 have hu := hi.dT (w := w)
 cases hd : i0.desc with
 | struct fs =>
  rw [hd] at h2 hu
  obtain ⟨f, s2, h3, h4⟩ := M.aK h2
  obtain ⟨h3g, rfl⟩ := j3 h3
  obtain ⟨n, s3, h5, h6⟩ := M.aK h4
  obtain ⟨⟨j, hj, rfl⟩, rfl⟩ := gB h5
  cases hb : j.size.beq 0 with
  | true => rw [hb] at h6; exact (aD h6).elim
  | false =>
   rw [hb] at h6
   have hne : ¬ j.size = 0 := fun e => by rw [e] at hb; cases hb
   obtain ⟨rfl, ad, rfl, hsp, hv⟩ := xF h6 hx
   have hf : fs[i]? = some f := by simpa using h3g
   simp only [Instr.fieldAt, Sem.run_bind, hu, Result.andThen_ok, hf, Instr.sureAddr, Sem.run_pure, fieldPlace, hj.dO, hne, if_false, BP hsp]
   exact .same hr (.refl _) hv
 | _ => rw [hd] at h2; exact (aD h2).elim
theorem uT {i : Int} {len j : Nat} (h : (idx i len).run s = .ok j s') (ho : bU s') : (0 ≤ i ∧ i < (len : Int)) ∧ j = i.toNat ∧ fS s s' := by
 obtain ⟨_, s1, h1, h2, ho1, _, _⟩ := M.aJ h ho
 obtain ⟨rfl, rfl⟩ := aC h2
 obtain ⟨h3, h4⟩ := eK h1 ho1
 exact ⟨of_decide_eq_true h3, rfl, h4⟩
theorem OX {α : Type} {k : Nat → Nat → Nat → Option Nat → Nat → M α} {k2 : (Nat → aA) → Nat → Nat → Nat → M α} {v : aA} {a : α} (h : (slK k k2 v).run s = .ok a s') :
  (∃ id off len cap sz, v = .sl id off len cap sz ∧ (k id off len cap sz).run s = .ok a s') ∨ (∃ g sz off len, v = .isl g sz off len ∧ (k2 g sz off len).run s = .ok a s') := by
 unfold slK at h
 split at h
 ·exact .inl ⟨_, _, _, _, _, rfl, h⟩
 ·exact .inr ⟨_, _, _, _, rfl, h⟩
 ·exact (aD h).elim
theorem wN {t : TypeId} {a i : aA} (h : (indexAddr E t a i).run s = .ok v s') (ho : bU s') (hr : Rel E.P ρ m s.heap.get w) {x y : Value} (hx : R ρ m a x) (hy : R ρ m i y) :
  Out E.P ρ m s w s' v ((Instr.indexAt t x y).run E.P w) := by
 obtain ⟨d, s1, h1, h2⟩ := M.aK h
 obtain ⟨⟨i0, hi, rfl⟩, rfl⟩ := eY h1
 have hu := hi.dT (w := w)
 obtain ⟨q, n, rfl, h3⟩ := mP h2
 obtain rfl := hy.cY
 cases hd : i0.desc with
 | array len e =>
  rw [hd] at h3 hu
  obtain ⟨k, s2, h4, h5⟩ := M.aK h3
  obtain ⟨⟨j, hj, rfl⟩, rfl⟩ := gB h4
  obtain ⟨p, s3, h6, h7, ho3, _, _⟩ := M.aJ h5 ho
  obtain ⟨hb, rfl, e1⟩ := uT h6 ho3
  obtain ⟨rfl, ad, rfl, hsp, hv⟩ := xF h7 hx
  have hb' : 0 ≤ n ∧ n < (len : Int) := hb
  simp only [Instr.indexAt, asIntOf, Sem.run_bind, hu, Result.andThen_ok, Instr.sureAddr, Sem.run_pure, hb', and_self, if_true, hj.dO, BP hsp]
  exact .same hr e1 hv
 | slice e =>
  rw [hd] at h3 hu
  obtain ⟨k, s2, h4, h5⟩ := M.aK h3
  obtain ⟨⟨j, hj, rfl⟩, rfl⟩ := gB h4
  rcases OX h5 with ⟨id, off, len, cap, sz, rfl, h6⟩ | ⟨g, sz, off, len, rfl, h6⟩
  ·cases hb : j.size.beq sz with
   | false => rw [hb] at h6; exact (aD h6).elim
   | true =>
    rw [hb] at h6
    obtain ⟨p, s3, h7, h8, ho3, _, _⟩ := M.aJ h6 ho
    obtain ⟨rfl, rfl⟩ := aC h8
    obtain ⟨hb', rfl, e1⟩ := uT h7 ho3
    cases hx with
    | slx _ _ _ c _ r hρ hl =>
     simp only [Instr.indexAt, asIntOf, Sem.run_bind, hu, Result.andThen_ok, Sem.run_pure, hb', and_self, if_true, hj.dO, eO]
     exact .same hr e1 (.ptr _ _ r hρ)
    | slw _ _ _ c _ r hρ hl hs hc =>
     simp only [Instr.indexAt, asIntOf, Sem.run_bind, hu, Result.andThen_ok, Sem.run_pure, hb', and_self, if_true, hj.dO, eO]
     exact .same hr e1 (.ptr _ _ r hρ)
    | sl0 => omega
  ·cases hb : j.size.beq sz with
   | false => rw [hb] at h6; exact (aD h6).elim
   | true =>
    rw [hb] at h6
    have hz := Nat.eq_of_beq_eq_true hb
    obtain ⟨p, s3, h7, h8, ho3, _, _⟩ := M.aJ h6 ho
    obtain ⟨rfl, rfl⟩ := aC h8
    obtain ⟨hb', rfl, e1⟩ := uT h7 ho3
    cases hx with
    | isl _ _ _ _ b o c g' hg hrr hl =>
     simp only [Instr.indexAt, asIntOf, Sem.run_bind, hu, Result.andThen_ok, Sem.run_pure, hb', and_self, if_true, hj.dO, eO]
     refine .same hr e1 ?_
     have := R.ip (ρ := ρ) (m := m) g (off + len * sz) (off + n.toNat * j.size) b o g' hg hrr
     rw [← Nat.add_assoc] at this
     exact this
    | sH => omega
 | _ => rw [hd] at h3; exact (aD h3).elim
theorem kB {t : TypeId} {cs : List aA} {off : Nat} (h : (part E t cs off).run s = .ok v s') {xs : Array Value} (hx : RL ρ m cs xs) (w : World) :
  s' = s ∧ ∃ x, (Go.part t xs off).run E.P w = .ok x w ∧ R ρ m v x := by
 obtain ⟨i, s1, h1, h2⟩ := M.aK h
 obtain ⟨hi, rfl⟩ := kR h1
 have e1 := hi.wX (w := w)
 cases hb : eR i.desc with
 | true =>
  rw [hb] at h2 e1
  obtain ⟨rfl, rfl⟩ := aC h2
  refine ⟨rfl, .agg (xs.extract off (off + i.size)), by simp only [Go.part, Sem.run_bind, e1, Result.andThen_ok, if_true, hi.dO, Sem.run_pure], .agg _ _ ?_ ?_⟩
  ·simp only [List.length_take, List.length_drop, Array.size_extract, hx.len]; omega
  ·intro k a b ha hb'
   have hk : k < i.size := by
    have := (List.getElem?_eq_some_iff.1 ha).1
    simp only [List.length_take] at this; omega
   rw [List.getElem?_take_of_lt hk, List.getElem?_drop] at ha
   rw [Array.getElem?_extract] at hb'
   split at hb'
   ·exact hx.at_ _ a b ha hb'
   ·cases hb'
 | false =>
  rw [hb] at h2 e1
  obtain ⟨h3, rfl⟩ := j3 h2
  have hlt := (List.getElem?_eq_some_iff.1 h3).1
  have hx' : xs[off]? = some (xs[off]'(by rw [← hx.len]; exact hlt)) := Array.getElem?_eq_getElem _
  refine ⟨rfl, _, by simp only [Go.part, Sem.run_bind, e1, Result.andThen_ok, Bool.false_eq_true, if_false, hx', Sem.run_pure], hx.at_ _ _ _ h3 hx'⟩
theorem FQ {t : TypeId} {a : aA} {i : Nat} (h : (field E t a i).run s = .ok v s') (hr : Rel E.P ρ m s.heap.get w) {x : Value} (hx : R ρ m a x) :
  Out E.P ρ m s w s' v ((Instr.field t x i).run E.P w) := by
 obtain ⟨d, s1, h1, h2⟩ := M.aK h
 obtain ⟨⟨i0, hi, rfl⟩, rfl⟩ := eY h1
 have hu := hi.dT (w := w)
 cases hd : i0.desc with
 | struct fs =>
  rw [hd] at h2 hu
  obtain ⟨l, rfl, h3⟩ := kE h2
  obtain ⟨xs, rfl, hxs⟩ := hx.iF
  obtain ⟨f, s2, h4, h5⟩ := M.aK h3
  obtain ⟨h4g, rfl⟩ := j3 h4
  obtain ⟨rfl, y, h6, h7⟩ := kB h5 hxs w
  have hf : fs[i]? = some f := by simpa using h4g
  simp only [Instr.field, Sem.run_bind, hu, Result.andThen_ok, hf, asAgg, Sem.run_pure, h6]
  exact .same hr (.refl _) h7
 | _ => rw [hd] at h2; exact (aD h2).elim
theorem FK {t : TypeId} {a i : aA} (h : (index E t a i).run s = .ok v s') (ho : bU s') (hr : Rel E.P ρ m s.heap.get w) {x y : Value} (hx : R ρ m a x) (hy : R ρ m i y) :
  Out E.P ρ m s w s' v ((Instr.index t x y).run E.P w) := by
 obtain ⟨d, s1, h1, h2⟩ := M.aK h
 obtain ⟨⟨i0, hi, rfl⟩, rfl⟩ := eY h1
 have hu := hi.dT (w := w)
 obtain ⟨q, n, rfl, h3⟩ := mP h2
 obtain rfl := hy.cY
 cases hd : i0.desc with
 | array len e =>
  rw [hd] at h3 hu
  obtain ⟨l, rfl, h4⟩ := kE h3
  obtain ⟨xs, rfl, hxs⟩ := hx.iF
  obtain ⟨p, s3, h6, h7, ho3, _, _⟩ := M.aJ h4 ho
  obtain ⟨hb, rfl, e1⟩ := uT h6 ho3
  obtain ⟨k, s4, h8, h9⟩ := M.aK h7
  obtain ⟨⟨j, hj, rfl⟩, rfl⟩ := gB h8
  obtain ⟨rfl, z, h10, h11⟩ := kB h9 hxs w
  simp only [Instr.index, asIntOf, Sem.run_bind, hu, Result.andThen_ok, Sem.run_pure, hb, and_self, if_true, hj.dO, h10]
  exact .same hr e1 h11
 | string =>
  rw [hd] at h3 hu
  obtain ⟨l, rfl, h4⟩ := kT h3
  obtain rfl := hx.gX
  obtain ⟨p, s3, h6, h7, ho3, _, _⟩ := M.aJ h4 ho
  obtain ⟨hb, rfl, e1⟩ := uT h6 ho3
  obtain ⟨rfl, rfl⟩ := aC h7
  have hlt : n.toNat < l.length := by omega
  have hget : (⟨⟨l⟩⟩ : ByteArray)[n.toNat]? = some l[n.toNat] := by
   have : n.toNat < (⟨⟨l⟩⟩ : ByteArray).size := hlt
   rw [getElem?_pos (⟨⟨l⟩⟩ : ByteArray) n.toNat this]
   rfl
  simp only [Instr.index, asIntOf, Sem.run_bind, hu, Result.andThen_ok, Sem.run_pure, hb.1, if_true, hget]
  refine .same hr e1 ?_
  have : DD l n.toNat = l[n.toNat] := by simp [DD, List.getD, List.getElem?_eq_getElem hlt]
  rw [this]
  exact .int _ _
 | _ => rw [hd] at h3; exact (aD h3).elim
end
end Go.Am
set_option linter.unusedSimpArgs false
set_option linter.unusedVariables false
namespace Go.Am
open Go
variable {E : Env}
section
variable {ρ : Ren} {m : Mem} {s s' : St} {w : World} {v : aA}
inductive RO (ρ : Ren) (m : Mem) : Option aA → Option Value → Prop
 | none : RO ρ m none none
 | some (v : aA) (x : Value) (h : R ρ m v x) : RO ρ m (some v) (some x)
theorem oL {o : Option aA} {d most n : Nat} (h : (cX o d most).run s = .ok n s') (ho : bU s') {x : Option Value} (hx : RO ρ m o x) :
  fS s s' ∧ ((o = none ∧ x = none ∧ n = d) ∨ ∃ k i, o = some (.int k i) ∧ x = some (.int k i) ∧ 0 ≤ i ∧ i ≤ (most : Int) ∧ n = i.toNat) := by
 unfold cX at h
 cases hx with
 | none =>
  obtain ⟨rfl, rfl⟩ := aC h
  exact ⟨.refl _, .inl ⟨rfl, rfl, rfl⟩⟩
 | some v x hv =>
  obtain ⟨q, i, rfl, h2⟩ := mP h
  obtain rfl := hv.cY
  obtain ⟨_, s1, h3, h4, ho1, _, _⟩ := M.aJ h2 ho
  obtain ⟨rfl, rfl⟩ := aC h4
  obtain ⟨h5, h6⟩ := eK h3 ho1
  have h5' := of_decide_eq_true h5
  exact ⟨h6, .inr ⟨q, i, rfl, rfl, h5'.1, h5'.2, rfl⟩⟩
theorem eT {P : Program} {k : IntKind} {i : Int} {y : Nat} (c : BoundsCode) (h0 : 0 ≤ i) (h1 : i ≤ (y : Int)) : (Instr.sliceBound (.int k i) y c).run P w = .ok i.toNat w := by
 simp only [Instr.sliceBound, asIntOf, Sem.run_bind, Sem.run_pure, Result.andThen_ok, h0, h1, and_self, if_true]
theorem fR {P : Program} {isSl : Bool} {len cap most : Nat} {lo hi : Option aA} {lo' hi' : Option Value} {l h : Nat} {s1 s2 : St} (k1 : (cX hi len most).run s = .ok h s1) (k2 : (cX lo 0 h).run s1 = .ok l s2) (ho : bU s2)
  (hl : RO ρ m lo lo') (hh : RO ρ m hi hi') (hlen : len ≤ most) (hcap : most ≤ cap) :
  (Instr.sliceBounds isSl len cap lo' hi' none).run P w = .ok (l, h, cap) w ∧ l ≤ h ∧ h ≤ most ∧ fS s s2 := by
 obtain ⟨_, _, o, d⟩ := (cX lo 0 h).loc _ _ _ k2
 obtain ⟨e1, c1⟩ := oL k1 (ho.of d.obs) hh
 obtain ⟨e2, c2⟩ := oL k2 ho hl
 have hhm : h ≤ most := by
  rcases c1 with ⟨_, _, rfl⟩ | ⟨k, i, _, _, a, b, rfl⟩ <;> omega
 have hlh : l ≤ h := by
  rcases c2 with ⟨_, _, rfl⟩ | ⟨k, i, _, _, a, b, rfl⟩ <;> omega
 refine ⟨?_, hlh, hhm, e1.trans e2⟩
 rcases c1 with ⟨_, rfl, rfl⟩ | ⟨k, i, _, rfl, a, b, rfl⟩
 ·rcases c2 with ⟨_, rfl, rfl⟩ | ⟨k2, i2, _, rfl, a2, b2, rfl⟩
  ·rfl
  ·simp only [Instr.sliceBounds, Sem.run_bind, Sem.run_pure, Result.andThen_ok, eT _ a2 b2, Option.isSome, Bool.false_eq_true, if_false]
 ·have b' : i ≤ (cap : Int) := by omega
  rcases c2 with ⟨_, rfl, rfl⟩ | ⟨k2, i2, _, rfl, a2, b2, rfl⟩
  ·simp only [Instr.sliceBounds, Sem.run_bind, Sem.run_pure, Result.andThen_ok, eT _ a b']
  ·simp only [Instr.sliceBounds, Sem.run_bind, Sem.run_pure, Result.andThen_ok, eT _ a b', eT _ a2 b2, Option.isSome, Bool.false_eq_true, if_false]
theorem iJ {P : Program} {len cap most d : Nat} {lo hi mx : Option aA} {lo' hi' mx' : Option Value} {l h q : Nat} {s1 s2 s3 : St} (k0 : (cX mx d most).run s = .ok q s1) (k1 : (cX hi len q).run s1 = .ok h s2) (k2 : (cX lo 0 h).run s2 = .ok l s3) (ho : bU s3)
  (hl : RO ρ m lo lo') (hh : RO ρ m hi hi') (hm : RO ρ m mx mx') (hi0 : hi ≠ none) (mx0 : mx ≠ none) (hcap : most ≤ cap) :
  (Instr.sliceBounds true len cap lo' hi' mx').run P w = .ok (l, h, q) w ∧ l ≤ h ∧ h ≤ q ∧ q ≤ most ∧ fS s s3 := by
 obtain ⟨_, _, o2, d2⟩ := (cX lo 0 h).loc _ _ _ k2
 obtain ⟨_, _, o1, d1⟩ := (cX hi len q).loc _ _ _ k1
 have ho2 := ho.of d2.obs
 obtain ⟨e0, c0⟩ := oL k0 (ho2.of d1.obs) hm
 obtain ⟨e1, c1⟩ := oL k1 ho2 hh
 obtain ⟨e2, c2⟩ := oL k2 ho hl
 rcases c0 with ⟨x, _, _⟩ | ⟨k3, i3, _, rfl, a3, b3, rfl⟩
 ·exact absurd x mx0
 rcases c1 with ⟨x, _, _⟩ | ⟨k, i, _, rfl, a, b, rfl⟩
 ·exact absurd x hi0
 have b3' : i3 ≤ (cap : Int) := by omega
 have hlh : l ≤ i.toNat := by
  rcases c2 with ⟨_, _, rfl⟩ | ⟨k, i, _, _, a, b, rfl⟩ <;> omega
 have g1 : i.toNat ≤ i3.toNat := Int.toNat_le.mpr b
 have g2 : i3.toNat ≤ most := Int.toNat_le.mpr b3
 refine ⟨?_, hlh, g1, g2, (e0.trans e1).trans e2⟩
 rcases c2 with ⟨_, rfl, rfl⟩ | ⟨k2, i2, _, rfl, a2, b2, rfl⟩
 ·simp only [Instr.sliceBounds, Sem.run_bind, Sem.run_pure, Result.andThen_ok, eT _ a3 b3', eT _ a b, if_true]
 ·simp only [Instr.sliceBounds, Sem.run_bind, Sem.run_pure, Result.andThen_ok, eT _ a3 b3', eT _ a b, eT _ a2 b2, Option.isSome, if_true]
theorem vV {α β γ : Type} {a : M α} {f : α → M β} {g : α → β → M γ} {c : γ} (h : (a.bind fun x => (f x).bind fun y => g x y).run s = .ok c s') (ho : bU s') :
  ∃ x y s1 s2, a.run s = .ok x s1 ∧ (f x).run s1 = .ok y s2 ∧ (g x y).run s2 = .ok c s' ∧ bU s2 := by
 obtain ⟨x, s1, h1, h2, ho1, _, _⟩ := M.aJ h ho
 obtain ⟨y, s2, h3, h4, ho2, _, _⟩ := M.aJ h2 ho
 exact ⟨x, y, s1, s2, h1, h3, h4, ho2⟩
theorem EX {id off len n q : Nat} {hi : Option aA} (h : (kZ id off len n hi).run s = .ok q s') : fS s s' ∧ (q = len ∨ ∃ c t, s.heap.get id = some (.row c t) ∧ q = max len ((c.size - off) / n)) := by
 unfold kZ at h
 split at h
 ·split at h
  ·obtain ⟨rfl, rfl⟩ := aC h; exact ⟨.refl _, .inl rfl⟩
  ·obtain ⟨b, s1, h1, h2⟩ := M.aK h
   obtain ⟨hg, e1⟩ := eC h1
   obtain ⟨c, t, rfl, h3⟩ := iU h2
   obtain ⟨rfl, rfl⟩ := aC h3
   exact ⟨e1, .inr ⟨c, t, hg, rfl⟩⟩
 ·obtain ⟨rfl, rfl⟩ := aC h; exact ⟨.refl _, .inl rfl⟩
theorem wZ {P : Program} {w : World} {id off len n q : Nat} {r : RB} {cc : Nat} (hr : Rel P ρ m s.heap.get w) (hρ : ρ id = some r) (hlc : len ≤ cc) (hc : r.n ≤ off + cc * n) (hq : q = len ∨ ∃ c t, s.heap.get id = some (.row c t) ∧ q = max len ((c.size - off) / n)) : len ≤ q ∧ q ≤ cc := by
 rcases hq with rfl | ⟨c, t, hg, rfl⟩
 ·exact ⟨Nat.le_refl _, hlc⟩
 ·refine ⟨Nat.le_max_left _ _, Nat.max_le.2 ⟨hlc, ?_⟩⟩
  obtain ⟨rb, o, h1, h2, h3, h4⟩ := hr.dJ id _ hg
  rw [hρ] at h1
  injection h1 with h1
  subst h1
  cases h3 with
  | row _ _ arr fr hs hn hcs hrr hf =>
   have : c.size - off ≤ cc * n := by omega
   by_cases h0 : n = 0
   ·subst h0; simp
   ·exact Nat.div_le_of_le_mul (by rw [Nat.mul_comm]; exact this)
theorem EG {α β γ δ : Type} {a : M α} {f : α → M β} {g : α → β → M γ} {e : α → β → γ → M δ} {c : δ} (h : (a.bind fun x => (f x).bind fun y => (g x y).bind fun z => e x y z).run s = .ok c s') (ho : bU s') :
  ∃ x y z s1 s2 s3, a.run s = .ok x s1 ∧ (f x).run s1 = .ok y s2 ∧ (g x y).run s2 = .ok z s3 ∧ (e x y z).run s3 = .ok c s' ∧ bU s3 := by
 obtain ⟨x, s1, h1, h2, ho1, _, _⟩ := M.aJ h ho
 obtain ⟨y, s2, h3, h4, ho2, _, _⟩ := M.aJ h2 ho
 obtain ⟨z, s3, h5, h6, ho3, _, _⟩ := M.aJ h4 ho
 exact ⟨x, y, z, s1, s2, s3, h1, h3, h5, h6, ho3⟩
theorem jC (l : List UInt8) (h k : Nat) : (⟨⟨l⟩⟩ : ByteArray).extract k h = ⟨⟨(l.take h).drop k⟩⟩ := by
 have : ((⟨⟨l⟩⟩ : ByteArray).extract k h).data.toList = (l.take h).drop k := by
  rw [ByteArray.data_extract]
  simp [List.extract_eq_take_drop, List.drop_take]
 cases hh : (⟨⟨l⟩⟩ : ByteArray).extract k h with
 | mk d =>
  rw [hh] at this
  cases d with
  | mk t => simp only at this; rw [this]
theorem ES {t : TypeId} {a : aA} {lo hi mx : Option aA} (h : (slice E t a lo hi mx).run s = .ok v s') (ho : bU s') (hr : Rel E.P ρ m s.heap.get w) {x : Value} {lo' hi' mx' : Option Value} (hx : R ρ m a x)
  (hl : RO ρ m lo lo') (hh : RO ρ m hi hi') (hm : RO ρ m mx mx') : Out E.P ρ m s w s' v ((Instr.sliceAt t x lo' hi' mx').run E.P w) := by
 obtain ⟨d, s1, h1, h2⟩ := M.aK h
 obtain ⟨⟨i0, hi0, rfl⟩, rfl⟩ := eY h1
 have hu := hi0.dT (w := w)
 cases hd : i0.desc with
 | string =>
  rw [hd] at h2 hu
  cases hm with
  | some _ _ _ => exact (aD h2).elim
  | none =>
   obtain ⟨l, rfl, h3⟩ := kT h2
   obtain rfl := hx.gX
   obtain ⟨hq, lq, s2, s3, k1, k2, k3, ho3⟩ := vV h3 ho
   obtain ⟨rfl, rfl⟩ := aC k3
   obtain ⟨b1, b2, b3, b4⟩ := fR (P := E.P) (w := w) (isSl := false) (cap := l.length) k1 k2 ho3 hl hh (Nat.le_refl _) (Nat.le_refl _)
   have hsz : (⟨⟨l⟩⟩ : ByteArray).size = l.length := rfl
   simp only [Instr.sliceAt, Instr.slice, Sem.run_bind, hu, Result.andThen_ok, Option.isSome, Bool.false_eq_true, if_false, hsz, b1, Sem.run_pure, jC]
   exact .same hr b4 (.str _)
 | slice e =>
  rw [hd] at h2 hu
  obtain ⟨n, s2, h3, h4⟩ := M.aK h2
  obtain ⟨⟨j, hj, rfl⟩, rfl⟩ := gB h3
  have hz := hj.dO (w := w)
  cases hm with
  | none =>
   simp only at h4
   split at h4
   ·obtain ⟨hq, lq, s2, s3, k1, k2, k3, ho3⟩ := vV h4 ho
    obtain ⟨rfl, rfl⟩ := aC k3
    cases hx with
    | aT =>
     obtain ⟨b1, b2, b3, b4⟩ := fR (P := E.P) (w := w) (isSl := true) (cap := 0) k1 k2 ho3 hl hh (Nat.le_refl _) (Nat.le_refl _)
     obtain rfl : hq = 0 := by omega
     obtain rfl : lq = 0 := by omega
     simp only [Instr.sliceAt, Instr.slice, Sem.run_bind, hu, Result.andThen_ok, b1, hz, Sem.run_pure]
     exact .same hr b4 .aT
   ·obtain ⟨hq, lq, s2, s3, k1, k2, k3, ho3⟩ := vV h4 ho
    obtain ⟨rfl, rfl⟩ := aC k3
    cases hx with
    | emp ad =>
     obtain ⟨b1, b2, b3, b4⟩ := fR (P := E.P) (w := w) (isSl := true) (cap := 0) k1 k2 ho3 hl hh (Nat.le_refl _) (Nat.le_refl _)
     obtain rfl : hq = 0 := by omega
     obtain rfl : lq = 0 := by omega
     simp only [Instr.sliceAt, Instr.slice, Sem.run_bind, hu, Result.andThen_ok, b1, hz, Sem.run_pure]
     exact .same hr b4 (.emp _)
   ·rename_i g sz off len
    obtain ⟨hsz, h5⟩ := eH h4
    obtain ⟨hq, lq, s2, s3, k1, k2, k3, ho3⟩ := vV h5 ho
    obtain ⟨rfl, rfl⟩ := aC k3
    cases hx with
    | isl _ _ _ _ b o c g' hg hrr hlc =>
     obtain ⟨b1, b2, b3, b4⟩ := fR (P := E.P) (w := w) (isSl := true) (cap := c) k1 k2 ho3 hl hh (Nat.le_refl _) hlc
     simp only [Instr.sliceAt, Instr.slice, Sem.run_bind, hu, Result.andThen_ok, b1, hz, Sem.run_pure, Option.map_some, eO]
     refine .same hr b4 ?_
     by_cases e0 : c = lq
     ·subst e0
      have : hq - c = 0 := by omega
      rw [this, if_pos rfl]
      exact .sH _ _ _ _ _
     ·rw [if_neg e0]
      have hle : off + lq * j.size + (hq - lq) * sz ≤ off + len * sz := by
       rw [hsz, Nat.add_assoc, ← Nat.add_mul]
       exact Nat.add_le_add_left (Nat.mul_le_mul_right _ (by omega)) _
      have := R.isl (ρ := ρ) (m := m) g sz (off + lq * j.size) (hq - lq) b o (c - lq) g' (fun k hk => hg k (by omega)) (fun k hk => hrr k (by omega)) (by omega)
      rw [← Nat.add_assoc] at this
      exact this
    | sH _ _ _ c ad =>
     obtain ⟨b1, b2, b3, b4⟩ := fR (P := E.P) (w := w) (isSl := true) (cap := c) k1 k2 ho3 hl hh (Nat.le_refl _) (Nat.zero_le _)
     obtain rfl : hq = 0 := by omega
     obtain rfl : lq = 0 := by omega
     simp only [Instr.sliceAt, Instr.slice, Sem.run_bind, hu, Result.andThen_ok, b1, hz, Sem.run_pure, Option.map_some]
     split <;> exact .same hr b4 (.sH _ _ _ _ _)
   ·rename_i id off len cap sz
    obtain ⟨hsz, h5⟩ := eH h4
    cases cap with
    | some c =>
     obtain ⟨hq, lq, s2, s3, k1, k2, k3, ho3⟩ := vV h5 ho
     obtain ⟨rfl, rfl⟩ := aC k3
     cases hx with
     | slx _ _ _ _ _ r hρ hlc =>
      obtain ⟨b1, b2, b3, b4⟩ := fR (P := E.P) (w := w) (isSl := true) (cap := c) k1 k2 ho3 hl hh hlc (Nat.le_refl _)
      simp only [Instr.sliceAt, Instr.slice, Sem.run_bind, hu, Result.andThen_ok, b1, hz, Sem.run_pure, Option.map_some, eO]
      refine .same hr b4 ?_
      by_cases e0 : c = lq
      ·subst e0
       rw [if_pos rfl]
       have e1 : hq - c = 0 := by omega
       have e2 : c - c = 0 := by omega
       rw [e1, e2]
       exact .sl0 _ _ _ _ _ (fun k hk => by simpa using hk.symm) (fun hk => by cases hk)
      ·rw [if_neg e0]
       exact .slx _ _ _ _ _ r hρ (by omega)
     | sl0 _ _ _ _ ad hc hn =>
      obtain rfl : c = 0 := hc c rfl
      obtain ⟨b1, b2, b3, b4⟩ := fR (P := E.P) (w := w) (isSl := true) (cap := 0) k1 k2 ho3 hl hh (Nat.le_refl _) (Nat.le_refl _)
      obtain rfl : hq = 0 := by omega
      obtain rfl : lq = 0 := by omega
      simp only [Instr.sliceAt, Instr.slice, Sem.run_bind, hu, Result.andThen_ok, b1, hz, Sem.run_pure]
      exact .same hr b4 (.sl0 _ _ _ _ _ (fun k hk => by simpa using hk.symm) (fun hk => by cases hk))
    | none =>
     obtain ⟨most, s0, k0, h5'⟩ := M.aK h5
     obtain ⟨e0', hq0⟩ := EX k0
     obtain ⟨hq, lq, s2, s3, k1, k2, k3, ho3⟩ := vV h5' ho
     obtain ⟨rfl, rfl⟩ := aC k3
     cases hx with
     | slw _ _ _ c _ r hρ hlc hs hc =>
      obtain ⟨m1, m2⟩ := wZ hr hρ hlc (by rw [← hsz] at hc; omega) hq0
      obtain ⟨b1, b2, b3, b4'⟩ := fR (P := E.P) (w := w) (isSl := true) (cap := c) k1 k2 ho3 hl hh m1 m2
      have b4 := e0'.trans b4'
      simp only [Instr.sliceAt, Instr.slice, Sem.run_bind, hu, Result.andThen_ok, b1, hz, Sem.run_pure, Option.map_some, eO]
      refine .same hr b4 ?_
      by_cases e0 : c = lq
      ·subst e0
       rw [if_pos rfl]
       have e1 : hq - c = 0 := by omega
       have e2 : c - c = 0 := by omega
       rw [e1, e2]
       exact .sl0 _ _ _ _ _ (fun k hk => by cases hk) (fun _ => ⟨r, hρ, by rw [← hc, hsz]; exact Nat.le_refl _⟩)
      ·rw [if_neg e0]
       refine .slw _ _ _ _ _ r hρ (by omega) hs ?_
       rw [hsz, Nat.add_assoc, ← Nat.add_mul]
       have : lq + (c - lq) = c := by omega
       rw [this]; exact hc
     | sl0 _ _ _ _ ad hc hn =>
      obtain ⟨r0, hρ0, hn0⟩ := hn rfl
      obtain ⟨m1, m2⟩ := wZ (cc := 0) hr hρ0 (Nat.le_refl _) (by omega) hq0
      obtain ⟨b1, b2, b3, b4'⟩ := fR (P := E.P) (w := w) (isSl := true) (cap := 0) k1 k2 ho3 hl hh m1 m2
      have b4 := e0'.trans b4'
      obtain rfl : hq = 0 := by omega
      obtain rfl : lq = 0 := by omega
      simp only [Instr.sliceAt, Instr.slice, Sem.run_bind, hu, Result.andThen_ok, b1, hz, Sem.run_pure]
      exact .same hr b4 (.sl0 _ _ _ _ _ (fun k hk => by cases hk) (fun e => by obtain ⟨r, h1, h2⟩ := hn e; exact ⟨r, h1, by omega⟩))
   ·exact (aD h4).elim
  | some mv mxv hmv =>
   simp only at h4
   cases hi with
   | none => exact (aD h4).elim
   | some hv =>
    simp only at h4
    split at h4
    ·obtain ⟨q, hq, lq, s1, s2, s3, k0, k1, k2, k3, ho3⟩ := EG h4 ho
     obtain ⟨rfl, rfl⟩ := aC k3
     cases hx with
     | aT =>
      obtain ⟨b1, b2, b3, b5, b4⟩ := iJ (P := E.P) (w := w) (cap := 0) k0 k1 k2 ho3 hl hh (.some _ _ hmv) (by simp) (by simp) (Nat.le_refl _)
      obtain rfl : q = 0 := by omega
      obtain rfl : hq = 0 := by omega
      obtain rfl : lq = 0 := by omega
      simp only [Instr.sliceAt, Instr.slice, Sem.run_bind, hu, Result.andThen_ok, b1, hz, Sem.run_pure]
      exact .same hr b4 .aT
    ·obtain ⟨q, hq, lq, s1, s2, s3, k0, k1, k2, k3, ho3⟩ := EG h4 ho
     obtain ⟨rfl, rfl⟩ := aC k3
     cases hx with
     | emp ad =>
      obtain ⟨b1, b2, b3, b5, b4⟩ := iJ (P := E.P) (w := w) (cap := 0) k0 k1 k2 ho3 hl hh (.some _ _ hmv) (by simp) (by simp) (Nat.le_refl _)
      obtain rfl : q = 0 := by omega
      obtain rfl : hq = 0 := by omega
      obtain rfl : lq = 0 := by omega
      simp only [Instr.sliceAt, Instr.slice, Sem.run_bind, hu, Result.andThen_ok, b1, hz, Sem.run_pure]
      exact .same hr b4 (.emp _)
    ·rename_i g sz off len
     obtain ⟨hsz, h5⟩ := eH h4
     obtain ⟨q, hq, lq, s1, s2, s3, k0, k1, k2, k3, ho3⟩ := EG h5 ho
     obtain ⟨rfl, rfl⟩ := aC k3
     cases hx with
     | isl _ _ _ _ b o c g' hg hrr hlc =>
      obtain ⟨b1, b2, b3, b5, b4⟩ := iJ (P := E.P) (w := w) (cap := c) k0 k1 k2 ho3 hl hh (.some _ _ hmv) (by simp) (by simp) (Nat.zero_le _)
      obtain rfl : q = 0 := by omega
      obtain rfl : hq = 0 := by omega
      obtain rfl : lq = 0 := by omega
      simp only [Instr.sliceAt, Instr.slice, Sem.run_bind, hu, Result.andThen_ok, b1, hz, Sem.run_pure]
      exact .same hr b4 (.emp _)
     | sH _ _ _ c ad =>
      obtain ⟨b1, b2, b3, b5, b4⟩ := iJ (P := E.P) (w := w) (cap := c) k0 k1 k2 ho3 hl hh (.some _ _ hmv) (by simp) (by simp) (Nat.zero_le _)
      obtain rfl : q = 0 := by omega
      obtain rfl : hq = 0 := by omega
      obtain rfl : lq = 0 := by omega
      simp only [Instr.sliceAt, Instr.slice, Sem.run_bind, hu, Result.andThen_ok, b1, hz, Sem.run_pure]
      exact .same hr b4 (.emp _)
    ·rename_i id off len cap sz
     obtain ⟨hsz, h5⟩ := eH h4
     obtain ⟨q, hq, lq, s1, s2, s3, k0, k1, k2, k3, ho3⟩ := EG h5 ho
     obtain ⟨rfl, rfl⟩ := aC k3
     cases hx with
     | slx _ _ _ c _ r hρ hlc =>
      have hcc : (some c).getD len ≤ c := Nat.le_refl _
      obtain ⟨b1, b2, b3, b5, b4⟩ := iJ (P := E.P) (w := w) (cap := c) k0 k1 k2 ho3 hl hh (.some _ _ hmv) (by simp) (by simp) hcc
      simp only [Instr.sliceAt, Instr.slice, Sem.run_bind, hu, Result.andThen_ok, b1, hz, Sem.run_pure, Option.map_some, eO]
      refine .same hr b4 ?_
      by_cases e0 : q = lq
      ·subst e0
       rw [if_pos rfl]
       have e1 : hq - q = 0 := by omega
       have e2 : q - q = 0 := by omega
       rw [e1, e2]
       exact .sl0 _ _ _ _ _ (fun k hk => by simpa using hk.symm) (fun hk => by cases hk)
      ·rw [if_neg e0]
       exact .slx _ _ _ _ _ r hρ (by omega)
     | slw _ _ _ c _ r hρ hlc hs hc =>
      have hcc : (none : Option Nat).getD len ≤ c := hlc
      obtain ⟨b1, b2, b3, b5, b4⟩ := iJ (P := E.P) (w := w) (cap := c) k0 k1 k2 ho3 hl hh (.some _ _ hmv) (by simp) (by simp) hcc
      simp only [Instr.sliceAt, Instr.slice, Sem.run_bind, hu, Result.andThen_ok, b1, hz, Sem.run_pure, Option.map_some, eO]
      refine .same hr b4 ?_
      by_cases e0 : q = lq
      ·subst e0
       rw [if_pos rfl]
       have e1 : hq - q = 0 := by omega
       have e2 : q - q = 0 := by omega
       rw [e1, e2]
       exact .sl0 _ _ _ _ _ (fun k hk => by simpa using hk.symm) (fun hk => by cases hk)
      ·rw [if_neg e0]
       exact .slx _ _ _ _ _ r hρ (by omega)
     | sl0 _ _ _ _ ad hc hn =>
      have hc0 : cap.getD 0 ≤ 0 := by
       cases cap with
       | none => exact Nat.le_refl _
       | some k => have := hc k rfl; subst this; exact Nat.le_refl _
      obtain ⟨b1, b2, b3, b5, b4⟩ := iJ (P := E.P) (w := w) (cap := 0) k0 k1 k2 ho3 hl hh (.some _ _ hmv) (by simp) (by simp) hc0
      obtain rfl : q = 0 := by omega
      obtain rfl : hq = 0 := by omega
      obtain rfl : lq = 0 := by omega
      simp only [Instr.sliceAt, Instr.slice, Sem.run_bind, hu, Result.andThen_ok, b1, hz, Sem.run_pure]
      exact .same hr b4 (.sl0 _ _ _ _ _ (fun k hk => by simpa using hk.symm) (fun hk => by cases hk))
    ·exact (aD h4).elim
 | array len e =>
  rw [hd] at h2 hu
  obtain ⟨n, s2, h3, h4⟩ := M.aK h2
  obtain ⟨⟨j, hj, rfl⟩, rfl⟩ := gB h3
  have hz := hj.dO (w := w)
  cases hm with
  | some _ _ _ => exact (aD h4).elim
  | none =>
   obtain ⟨hq, lq, s2, s3, k1, k2, k3, ho3⟩ := vV h4 ho
   obtain ⟨b1, b2, b3, b4⟩ := fR (P := E.P) (w := w) (isSl := false) (cap := len) k1 k2 ho3 hl hh (Nat.le_refl _) (Nat.le_refl _)
   split at k3
   ·rename_i id off
    obtain ⟨rfl, rfl⟩ := aC k3
    cases hx with
    | ptr _ _ r hρ =>
     simp only [Instr.sliceAt, Sem.run_bind, hu, Result.andThen_ok, Instr.sureAddr, b1, hz, Sem.run_pure, eO]
     refine .same hr b4 ?_
     by_cases e0 : len = lq
     ·subst e0
      rw [if_pos rfl]
      have e1 : hq - len = 0 := by omega
      have e2 : len - len = 0 := by omega
      rw [e1, e2]
      exact .sl0 _ _ _ _ _ (fun k hk => by simpa using hk.symm) (fun hk => by cases hk)
     ·rw [if_neg e0]
      exact .slx _ _ _ _ _ r hρ (by omega)
   ·rename_i g mm off
    obtain ⟨_, s4, h5, h6, ho4, _, _⟩ := M.aJ k3 ho
    obtain ⟨h7, h8⟩ := eK h5 ho4
    obtain ⟨rfl, rfl⟩ := aC h6
    have h7' := Nat.le_of_ble_eq_true h7
    cases hx with
    | ip _ _ _ b o g' hg hrr =>
     simp only [Instr.sliceAt, Sem.run_bind, hu, Result.andThen_ok, Instr.sureAddr, b1, hz, Sem.run_pure, eO]
     refine .same hr (b4.trans h8) ?_
     by_cases e0 : len = lq
     ·subst e0
      have e1 : hq - len = 0 := by omega
      rw [e1, if_pos rfl]
      exact .sH _ _ _ _ _
     ·rw [if_neg e0]
      have hle : off + lq * j.size + (hq - lq) * j.size ≤ off + len * j.size := by
       rw [Nat.add_assoc, ← Nat.add_mul]
       exact Nat.add_le_add_left (Nat.mul_le_mul_right _ (by omega)) _
      have := R.isl (ρ := ρ) (m := m) g j.size (off + lq * j.size) (hq - lq) b o (len - lq) g' (fun k hk => hg k (by omega)) (fun k hk => hrr k (by omega)) (by omega)
      rw [← Nat.add_assoc] at this
      exact this
   ·exact (aD k3).elim
 | _ => rw [hd] at h2; exact (aD h2).elim
end
end Go.Am
set_option linter.unusedSimpArgs false
set_option linter.unusedVariables false
namespace Go.Am
open Go
variable {E : Env}
section
variable {ρ : Ren} {m : Mem} {s s' : St} {w : World} {v : aA}
theorem m7 {P : Program} {a : aA} {n : Nat} (h : (lenOf a).run s = .ok n s') {x : Value} (hx : R ρ m a x) : s' = s ∧ (Builtin.lenOf x).run P w = .ok n w := by
 unfold lenOf at h
 split at h
 ·obtain ⟨rfl, rfl⟩ := aC h; cases hx; exact ⟨rfl, rfl⟩
 ·obtain ⟨rfl, rfl⟩ := aC h; cases hx; exact ⟨rfl, rfl⟩
 ·obtain ⟨rfl, rfl⟩ := aC h; cases hx <;> exact ⟨rfl, rfl⟩
 ·obtain ⟨rfl, rfl⟩ := aC h; cases hx <;> exact ⟨rfl, rfl⟩
 ·obtain ⟨rfl, rfl⟩ := aC h; cases hx; exact ⟨rfl, rfl⟩
 ·exact (aD h).elim
theorem gO : ∀ l : List UInt8, (gP l).length = l.length
 | [] => rfl
 | b :: l => by simp [gP, gO l]
theorem lY : ∀ (l : List UInt8) (i : Nat), (gP l)[i]? = (l[i]?).map fun b => aA.int .u8 (b.toNat : Int)
 | [], i => by simp [gP]
 | b :: l, 0 => by simp [gP]
 | b :: l, i + 1 => by simp [gP, lY l i]
theorem wS (l : List UInt8) : RL ρ m (gP l) (l.toArray.map fun b => .int .u8 b.toNat) := by
 refine ⟨by simp [gO], fun i a b ha hb => ?_⟩
 rw [lY] at ha
 simp only [Array.getElem?_map, List.getElem?_toArray] at hb
 cases hl : l[i]? with
 | none => rw [hl] at ha; cases ha
 | some c =>
  rw [hl] at ha hb
  simp only [Option.map_some, Option.some.injEq] at ha hb
  subst ha; subst hb
  exact .int _ _
theorem RL.nil : RL ρ m [] #[] := ⟨rfl, fun i _ _ h => by simp at h⟩
theorem RL.append {a b : List aA} {x y : Array Value} (h : RL ρ m a x) (h' : RL ρ m b y) : RL ρ m (a ++ b) (x ++ y) := by
 refine ⟨by simp [h.len, h'.len], fun i c d hc hd => ?_⟩
 by_cases hi : i < a.length
 ·rw [List.getElem?_append_left hi] at hc
  rw [Array.getElem?_append_left (by rw [← h.len]; exact hi)] at hd
  exact h.at_ i c d hc hd
 ·rw [List.getElem?_append_right (by omega)] at hc
  rw [Array.getElem?_append_right (by rw [← h.len]; omega), ← h.len] at hd
  exact h'.at_ _ c d hc hd
theorem fF {P : Program} {a : aA} {sz n : Nat} {cs : List aA} (h : (cU sz n a).run s = .ok cs s') (ho : bU s') (hr : Rel P ρ m s.heap.get w) {x : Value} (hx : R ρ m a x) :
  ∃ xs, (Builtin.firstCells sz n x).run P w = .ok xs w ∧ RL ρ m cs xs ∧ cs.length = n * sz ∧ fS s s' := by
 unfold cU at h
 split at h
 ·obtain ⟨_, s1, h1, h2, ho1, _, _⟩ := M.aJ h ho
  obtain ⟨hb, e⟩ := eK h1 ho1
  obtain ⟨rfl, rfl⟩ := aC h2
  obtain rfl := Nat.eq_of_beq_eq_true hb
  cases hx
  exact ⟨#[], rfl, .nil, by simp, e⟩
 ·obtain ⟨_, s1, h1, h2, ho1, _, _⟩ := M.aJ h ho
  obtain ⟨hb, e⟩ := eK h1 ho1
  obtain ⟨rfl, rfl⟩ := aC h2
  obtain rfl := Nat.eq_of_beq_eq_true hb
  cases hx with
  | emp ad =>
   refine ⟨#[], ?_, .nil, by simp, e⟩
   cases ad with
   | none => rfl
   | some ad => simp only [Builtin.firstCells, Nat.zero_mul]; rfl
 ·rename_i id off len cap z
  obtain ⟨hz, h1⟩ := eH h
  subst hz
  obtain ⟨b, s1, h2, h3, ho1, _, _⟩ := M.aJ h1 ho
  obtain ⟨hg, e1⟩ := eC h2
  obtain ⟨c, t, rfl, h4⟩ := iU h3
  obtain ⟨_, s2, h5, h6, ho2, _, _⟩ := M.aJ h4 ho
  obtain ⟨hb1, e2⟩ := eK h5 ho2
  obtain ⟨_, s3, h7, h8, ho3, _, _⟩ := M.aJ h6 ho
  obtain ⟨hb2, e3⟩ := eK h7 ho3
  obtain ⟨rfl, rfl⟩ := aC h8
  have hle := Nat.le_of_ble_eq_true hb2
  have hnl := Nat.le_of_ble_eq_true hb1
  have hread : ∀ r, ρ id = some r → ∃ xs, (loadCells ⟨r.b, off, none⟩ (n * z)).run P w = .ok xs w ∧ RL ρ m (c.sub off (n * z)) xs := by
   intro r hρ
   have hrd : (aZ (.ptr id off) (n * z)).run s = .ok (c.sub off (n * z)) { s with rds := id :: s.rds } := by
    have : (off + n * z).ble c.size = true := hb2
    simp only [aZ, M.bind, lG, fX, z7, hg, cW, ob, obF, M.pure, this]
   have ho' : bU { s with rds := id :: s.rds } := by
    have := (M.aK h1)
    obtain ⟨_, _, _, d⟩ := ((fX id).bind (cW fun c _ => (ob (n.ble len)).bind fun _ => (ob ((off + n * z).ble c.size)).bind fun _ => M.pure (c.sub off (n * z)))).loc _ _ _ h1
    have := ho.of d.obs
    simpa [bU] using this
   obtain ⟨ad, xs, e, k1, k2, k3, k4, k5⟩ := hU hrd ho' hr (.ptr id off r hρ)
   injection e with e
   injection e with e
   subst e
   exact ⟨xs.toArray, kY k1 k2, k3⟩
  have hlen := bH.gW hle
  cases hx with
  | slx _ _ _ cc _ r hρ hl =>
   obtain ⟨xs, k1, k2⟩ := hread r hρ
   exact ⟨xs, by simp only [Builtin.firstCells, k1], k2, hlen, (e1.trans e2).trans e3⟩
  | slw _ _ _ cc _ r hρ hl hs hc =>
   obtain ⟨xs, k1, k2⟩ := hread r hρ
   exact ⟨xs, by simp only [Builtin.firstCells, k1], k2, hlen, (e1.trans e2).trans e3⟩
  | sl0 _ _ _ _ ad hc hn =>
   have hn0 : n = 0 := by omega
   subst hn0
   refine ⟨#[], ?_, ?_, hlen, (e1.trans e2).trans e3⟩
   ·simp only [Builtin.firstCells, Nat.zero_mul]; rfl
   ·rw [Nat.zero_mul] at hlen ⊢
    rw [List.eq_nil_of_length_eq_zero hlen]; exact .nil
 ·rename_i g z off len
  obtain ⟨hz, h1⟩ := eH h
  subst hz
  obtain ⟨_, s1, h2, h3, ho1, _, _⟩ := M.aJ h1 ho
  obtain ⟨hb, e⟩ := eK h2 ho1
  obtain ⟨rfl, rfl⟩ := aC h3
  have hnl := Nat.le_of_ble_eq_true hb
  cases hx with
  | isl _ _ _ _ b o c g' hg hrr hl =>
   have hmul : n * z ≤ len * z := Nat.mul_le_mul_right _ hnl
   have hrd : (aZ (.ip g (off + len * z) off) (n * z)).run s = .ok (cellsOf g off (n * z)) s := by
    have : (off + n * z).ble (off + len * z) = true := by simpa using hmul
    simp only [aZ, M.bind, lG, ob, obF, M.pure, this]
   have ho' : bU s := by
    obtain ⟨_, _, _, d⟩ := ((ob (n.ble len)).bind fun _ => M.pure (cellsOf g off (n * z))).loc _ _ _ h1
    exact ho.of d.obs
   obtain ⟨ad, xs, e', k1, k2, k3, k4, k5⟩ := hU hrd ho' hr (.ip g (off + len * z) off b o g' hg hrr)
   injection e' with e'
   injection e' with e'
   subst e'
   exact ⟨xs.toArray, by simp only [Builtin.firstCells, kY k1 k2], k3, k4, e⟩
  | sH _ _ _ c ad =>
   have hn0 : n = 0 := by omega
   subst hn0
   refine ⟨#[], ?_, ?_, by simp [gN], e⟩
   ·simp only [Builtin.firstCells, Nat.zero_mul]; rfl
   ·rw [Nat.zero_mul]; exact .nil
 ·rename_i l
  obtain ⟨hz, h1⟩ := eH h
  subst hz
  obtain ⟨_, s1, h2, h3, ho1, _, _⟩ := M.aJ h1 ho
  obtain ⟨hb, e⟩ := eK h2 ho1
  obtain ⟨rfl, rfl⟩ := aC h3
  have hnl := Nat.le_of_ble_eq_true hb
  obtain rfl := hx.gX
  refine ⟨(l.take n).toArray.map fun b => .int .u8 b.toNat, ?_, wS _, by simp [gO]; omega, e⟩
  simp only [Builtin.firstCells, jC, List.drop_zero, Sem.run_pure]
 ·exact (aD h).elim
theorem xL (need : Nat) : ∀ (k c : Nat), 256 ≤ c → c ≤ 2 * need → Builtin.growBy need k c ≤ 2 * need
 | 0, c, _, h => h
 | k + 1, c, h1, h2 => by
  simp only [Builtin.growBy]
  split
  ·exact h2
  ·exact xL need k _ (by omega) (by omega)
theorem nE {need cap : Nat} (h : cap < need) : Builtin.nextslicecap need cap ≤ 2 * need := by
 unfold Builtin.nextslicecap
 split
 ·omega
 ·split
  ·omega
  ·exact xL need 4 cap (by omega) (by omega)
theorem oX {e : TypeId} {i : TI} {need : Nat} {cs : List aA} (h : (iR e i need cs).run s = .ok v s') (ho : bU s') (hr : Rel E.P ρ m s.heap.get w) (hf : eX ρ s s') (hi : TOk E.P e i) {xs : Array Value} (hx : RL ρ m cs xs)
  (hl : cs.length = need * i.size) (newCap : Nat) (hcap : need ≤ newCap) (zx : Array Value) (hz : zx.size = i.size) :
  2 * need * i.bytes ≤ 281474976710656 ∧ need ≤ 281474976710656 ∧
  ∃ ρ', eW E.P ρ m s w ρ' m s' (w.alloc (.cells (xs ++ Builtin.zeroCells zx (newCap - need)) e)) ∧ R ρ' m v (.slice (some ⟨w.heap.size, 0, none⟩) need newCap) := by
 obtain ⟨_, s1, h1, h2, ho1, _, _⟩ := M.aJ h ho
 obtain ⟨hb, e1⟩ := eK h1 ho1
 obtain ⟨id, s2, h3, h4⟩ := M.aK h2
 obtain ⟨rfl, rfl⟩ := aC h4
 simp only [Bool.and_eq_true] at hb
 have hb1 := Nat.le_of_ble_eq_true hb.1
 have hb2 := Nat.le_of_ble_eq_true hb.2
 have hr1 : Rel E.P ρ m s1.heap.get w := hr.congr (fun id => by rw [e1.heap])
 have hf1 : eX ρ s1 s' := fun id hid => hf id ⟨by have := hid.1; rw [e1.next] at this; exact this, hid.2⟩
 have hzs : (Builtin.zeroCells zx (newCap - need)).size = (newCap - need) * i.size := by simp [Builtin.zeroCells, hz]
 obtain ⟨eid, hp⟩ := qB h3 hr1 hf1 hi (arr := xs ++ Builtin.zeroCells zx (newCap - need)) (by simp [bH.size, hx.len]) (fun j y hj hy => by
  simp only [bH.size] at hj
  rw [Array.getElem?_append_left (by rw [← hx.len]; exact hj)] at hy
  simp only [bH.at, gJ, List.getElem?_eq_getElem hj, Option.getD_some]
  exact hx.at_ j _ y (List.getElem?_eq_getElem hj) hy)
 have hsize : (xs ++ Builtin.zeroCells zx (newCap - need)).size = newCap * i.size := by
  rw [Array.size_append, hzs, ← hx.len, hl, ← Nat.add_mul]
  congr 1; omega
 refine ⟨hb1, hb2, _, (eW.bS hr e1).trans hp, ?_⟩
 exact .slw id 0 need newCap i.size ⟨w.heap.size, (xs ++ Builtin.zeroCells zx (newCap - need)).size, i.size⟩ (by unfold Ren.put; rw [if_pos rfl]) hcap rfl (by show 0 + newCap * i.size = (xs ++ Builtin.zeroCells zx (newCap - need)).size; rw [hsize]; omega)
theorem eX.bS {ρ : Ren} {s s1 s2 : St} (h : eX ρ s s2) (e : fS s s1) : eX ρ s1 s2 := fun id hid => h id ⟨by have := hid.1; rw [e.next] at this; exact this, hid.2⟩
theorem Rel.bS {P : Program} {ρ : Ren} {m : Mem} {s s1 : St} {w : World} (h : Rel P ρ m s.heap.get w) (e : fS s s1) : Rel P ρ m s1.heap.get w := h.congr (fun id => by rw [e.heap])
theorem eW.after {P : Program} {ρ ρ' : Ren} {m m' : Mem} {s s1 s2 : St} {w w' : World} (h : eW P ρ m s1 w ρ' m' s2 w') (e : fS s s1) : eW P ρ m s w ρ' m' s2 w' :=
 ⟨h.ren, fun id hid => (h.new id hid).imp_right fun x => ⟨by have := x.1; rw [e.next] at this; exact this, x.2⟩, h.mem, h.rel, h.fr, by have := h.next; rw [e.next] at this; exact this⟩
theorem eW.drew {P : Program} {ρ ρ' : Ren} {m m' : Mem} {s s2 : St} {w w' : World} (h : eW P ρ m s { w with drawn := w.drawn + 1 } ρ' m' s2 w') : eW P ρ m s w ρ' m' s2 w' :=
 ⟨h.ren, h.new, h.mem, h.rel, (Fr.drew w).trans h.fr, h.next⟩
theorem sZ {P : Program} {w : World} {ts : Array TypeId} {ty t t2 : TypeId} {bM : List TypeId} (hts : ts.toList = t :: t2 :: bM) {e : TypeId} {i : TI} (hu : (underlying t).run P w = .ok (.slice e) w) {d2 : TypeDesc}
  (hu2 : (underlying t2).run P w = .ok d2 w) (hd2 : fD d2 = false) (hi : TOk P e i) {dN : Option Addr} {sLen sCap n : Nat} {x : Value} (hn : (Builtin.lenOf x).run P w = .ok n w) (hroom : ¬ sLen + n ≤ sCap)
  (hb : 2 * (sLen + n) * i.bytes ≤ 281474976710656) (hneed : sLen + n ≤ 281474976710656) {ys xs : Array Value} (hy : (Builtin.firstCells i.size sLen (.slice dN sLen sCap)).run P { w with drawn := w.drawn + 1 } = .ok ys { w with drawn := w.drawn + 1 })
  (hx : (Builtin.firstCells i.size n x).run P { w with drawn := w.drawn + 1 } = .ok xs { w with drawn := w.drawn + 1 }) :
  ∃ (newCap : Nat) (z : Value), sLen + n ≤ newCap ∧ ofValue z = i.zero ∧ (Builtin.append_ ts ty #[.slice dN sLen sCap, x]).run P w =
   .ok (.slice (some ⟨w.heap.size, 0, none⟩) (sLen + n) newCap) (({ w with drawn := w.drawn + 1 } : World).alloc (.cells (ys ++ xs ++ Builtin.zeroCells z.cells (newCap - (sLen + n))) e)) := by
 obtain ⟨j, hj, hjs, hjb, z, hjz, hzi⟩ := hi.A7 (w := w)
 have h0 : ts[0]? = some t := by rw [← Array.getElem?_toList, hts]; rfl
 have h1 : ts[1]? = some t2 := by rw [← Array.getElem?_toList, hts]; rfl
 have hmax : ¬ (((sLen + n : Nat) : Int) > IntKind.i64.max) := by
  have : IntKind.i64.max = 9223372036854775807 := rfl
  rw [this]; omega
 have hns : ¬ (Builtin.nextslicecap (sLen + n) sCap * j.bytes > 2 ^ 48) := by
  have h2 := nE (show sCap < sLen + n by omega)
  have h3 : Builtin.nextslicecap (sLen + n) sCap * j.bytes ≤ 2 * (sLen + n) * j.bytes := Nat.mul_le_mul_right _ h2
  rw [hjb] at h3 ⊢
  omega
 refine ⟨(Question.appendCap (sLen + n) sCap e).cut (w.tape w.drawn (.appendCap (sLen + n) sCap e)), z, ?_, hzi, ?_⟩
 ·simp only [Question.cut]; omega
 ·have hz1 : ∀ w' : World, (zeroValue e).run P w' = .ok z w' := by
   intro w'
   obtain ⟨j', q, hj', _, _, hq, hv⟩ := hi.CU
   have : (typeInfo e).run P w = .ok j' w := by simp [typeInfo, hj']
   rw [hj] at this
   injection this with e1 _
   subst e1
   simp [zeroValue, typeInfo, hj', hjz]
  have hj1 : ∀ w' : World, (typeInfo e).run P w' = .ok j w' := by
   intro w'
   obtain ⟨j', q, hj', _, _, hq, hv⟩ := hi.CU
   have : (typeInfo e).run P w = .ok j' w := by simp [typeInfo, hj']
   rw [hj] at this
   injection this with e1 _
   subst e1
   simp [typeInfo, hj']
  have hf : (Question.appendCap (sLen + n) sCap e).forced = false := rfl
  cases d2 with
  | int k => cases hd2
  | _ => simp only [Builtin.append_, h0, h1, List.getElem?_toArray, List.getElem?_cons_zero, List.getElem?_cons_succ, Sem.run_bind, hu, Result.andThen_ok, hi.dO, hu2, Sem.run_pure, Bool.false_eq_true, if_false, hn, hroom, hj1, hmax, false_and, hns, run_choose, hf, run_askRoom, hy, Bool.not_false, if_true, hx, hz1, kX]
end
end Go.Am
set_option linter.unusedSimpArgs false
set_option linter.unusedVariables false
namespace Go.Am
open Go
variable {E : Env}
section
variable {ρ : Ren} {m : Mem} {s s' : St} {w : World} {v : aA}
theorem tB {P : Program} {a : aA} (h : (lenOf a).run s = .ok 0 s') {x : Value} (hx : R ρ m a x) (sz : Nat) : (Builtin.firstCells sz 0 x).run P w = .ok #[] w := by
 have ld : ∀ ad : Addr, (loadCells ad (0 * sz)).run P w = .ok #[] w := fun ad => by rw [Nat.zero_mul]; rfl
 have sl : ∀ (o : Option Addr) (l c : Nat), (Builtin.firstCells sz 0 (.slice o l c)).run P w = .ok #[] w := fun o l c => by
  cases o with
  | none => rfl
  | some ad => simp only [Builtin.firstCells, ld]
 unfold lenOf at h
 split at h
 ·cases hx; exact sl _ _ _
 ·cases hx; exact sl _ _ _
 ·cases hx <;> exact sl _ _ _
 ·cases hx <;> exact sl _ _ _
 ·cases hx
  simp [Builtin.firstCells, jC]
 ·exact (aD h).elim
theorem jA {P : Program} {w w' : World} {ts : Array TypeId} {ty t t2 : TypeId} {bM : List TypeId} (hts : ts.toList = t :: t2 :: bM) {e : TypeId} {i : TI} (hu : (underlying t).run P w = .ok (.slice e) w) {d2 : TypeDesc}
  (hu2 : (underlying t2).run P w = .ok d2 w) (hd2 : fD d2 = false) (hi : TOk P e i) {dN : Option Addr} {sLen sCap n : Nat} {x : Value} (hn : (Builtin.lenOf x).run P w = .ok n w) (hroom : sLen + n ≤ sCap)
  {xs : Array Value} (hx : (Builtin.firstCells i.size n x).run P w = .ok xs w) (hst : ∀ a, dN = some a → (storeCells (a.add (sLen * i.size)) xs.toList).run P w = .ok () w') (hno : dN = none → w' = w) :
  (Builtin.append_ ts ty #[.slice dN sLen sCap, x]).run P w = .ok (.slice dN (sLen + n) sCap) w' := by
 have h0 : ts[0]? = some t := by rw [← Array.getElem?_toList, hts]; rfl
 have h1 : ts[1]? = some t2 := by rw [← Array.getElem?_toList, hts]; rfl
 cases dN with
 | none =>
  obtain rfl := hno rfl
  cases d2 with
  | int k => cases hd2
  | _ => simp only [Builtin.append_, h0, h1, List.getElem?_toArray, List.getElem?_cons_zero, List.getElem?_cons_succ, Sem.run_bind, hu, Result.andThen_ok, hi.dO, hu2, Sem.run_pure, Bool.false_eq_true, if_false, hn, hroom, Bool.not_false, if_true, hx]
 | some a =>
  have := hst a rfl
  cases d2 with
  | int k => cases hd2
  | _ => simp only [Builtin.append_, h0, h1, List.getElem?_toArray, List.getElem?_cons_zero, List.getElem?_cons_succ, Sem.run_bind, hu, Result.andThen_ok, hi.dO, hu2, Sem.run_pure, Bool.false_eq_true, if_false, hn, hroom, Bool.not_false, if_true, hx, this]
theorem Rel.GY {P : Program} {ρ : Ren} {m : Mem} {h h' : Nat → Option Blk} {w : World} (hr : Rel P ρ m h w) {id id' : Nat} {b : Blk} {r : RB} (hg : h id = some b) (hρ : ρ id = some r) (hn : ρ id' = none)
  (hh : ∀ j, h' j = if j = id' then some b else if j = id then none else h j) : Rel P (ρ.put id' r) m h' w where
 dJ := fun j c hj => by
  rw [hh j] at hj
  by_cases e : j = id'
  ·subst e
   simp only [if_true, Option.some.injEq] at hj
   subst hj
   obtain ⟨rb, o, q1, q2, q3, q4⟩ := hr.dJ id b hg
   rw [hρ] at q1
   injection q1 with q1
   subst q1
   exact ⟨r, o, by simp [Ren.put], q2, q3.mono (gU.put hn) (.refl m), q4⟩
  ·by_cases e2 : j = id
   ·simp [e, e2] at hj
    obtain ⟨h1, h2⟩ := hj
    exact absurd e2 (fun _ => e (e2.trans h1))
   ·simp only [e, e2, if_false] at hj
    obtain ⟨rb, o, q1, q2, q3, q4⟩ := hr.dJ j c hj
    exact ⟨rb, o, gU.put hn _ _ q1, q2, q3.mono (gU.put hn) (.refl m), q4⟩
 inj := fun i j b1 b2 r1 r2 h1 h2 h3 h4 h5 => by
  rw [hh] at h1 h2
  unfold Ren.put at h3 h4
  by_cases e1 : i = id'
  ·by_cases e2 : j = id'
   ·rw [e1, e2]
   ·by_cases e3 : j = id
    ·simp only [e2, e3, if_false, if_true] at h2
     split at h2
     ·exact absurd (e3.trans (by assumption)) e2
     ·cases h2
    ·simp only [e1, e2, e3, if_false, if_true, Option.some.injEq] at h2 h3 h4
     subst h3
     exact absurd (hr.inj id j b b2 r r2 hg h2 hρ h4 h5).symm e3
  ·by_cases e3 : i = id
   ·simp only [e1, e3, if_false, if_true] at h1
    split at h1
    ·exact absurd (e3.trans (by assumption)) e1
    ·cases h1
   ·by_cases e2 : j = id'
    ·simp only [e1, e2, e3, if_false, if_true, Option.some.injEq] at h1 h3 h4
     subst h4
     exact absurd (hr.inj i id b1 b r1 r h1 hg h3 hρ h5) e3
    ·by_cases e4 : j = id
     ·simp only [e2, e4, if_false, if_true] at h2
      split at h2
      ·exact absurd (e4.trans (by assumption)) e2
      ·cases h2
     ·simp only [e1, e2, e3, e4, if_false] at h1 h2 h3 h4
      exact hr.inj i j b1 b2 r1 r2 h1 h2 h3 h4 h5
 mem := hr.mem
theorem mC {ts : Array TypeId} {ty t t2 : TypeId} {bM : List TypeId} (hts : ts.toList = t :: t2 :: bM) {e : TypeId} {i : TI} (hu : (underlying t).run E.P w = .ok (.slice e) w) {d2 : TypeDesc}
  (hu2 : (underlying t2).run E.P w = .ok d2 w) (hd2 : fD d2 = false) (hi : TOk E.P e i) {dN : Option Addr} {sLen sCap n : Nat} {x : Value} (hn : (Builtin.lenOf x).run E.P w = .ok n w) (hroom : ¬ sLen + n ≤ sCap)
  {ys xs : List aA} {ya xa : Array Value} (hy : (Builtin.firstCells i.size sLen (.slice dN sLen sCap)).run E.P { w with drawn := w.drawn + 1 } = .ok ya { w with drawn := w.drawn + 1 })
  (hx : (Builtin.firstCells i.size n x).run E.P { w with drawn := w.drawn + 1 } = .ok xa { w with drawn := w.drawn + 1 }) (ly : RL ρ m ys ya) (lx : RL ρ m xs xa) (hly : ys.length = sLen * i.size) (hlx : xs.length = n * i.size)
  {need : Nat} (hne : need = sLen + n) (h : (iR e i need (ys ++ xs)).run s = .ok v s') (ho : bU s') (hr : Rel E.P ρ m s.heap.get w) (hf : eX ρ s s') :
  Out E.P ρ m s w s' v ((Builtin.append_ ts ty #[.slice dN sLen sCap, x]).run E.P w) := by
 subst hne
 have hlen : (ys ++ xs).length = (sLen + n) * i.size := by rw [List.length_append, hly, hlx, Nat.add_mul]
 obtain ⟨b1, b2, _⟩ := oX h ho hr.drew hf hi (ly.append lx) hlen (sLen + n) (Nat.le_refl _) (Array.replicate i.size Go.undef) (by simp)
 obtain ⟨newCap, z, k1, k2, k3⟩ := sZ (ty := ty) hts hu hu2 hd2 hi hn hroom b1 b2 hy hx
 have hz : z.cells.size = i.size := by rw [← (hi.rZ (ρ := ρ) (m := m) k2).len, hi.zR]
 obtain ⟨_, _, ρ', g1, g2⟩ := oX h ho hr.drew hf hi (ly.append lx) hlen newCap k1 z.cells hz
 exact ⟨_, _, ρ', k3, g1.drew, g2⟩
theorem wD {zs : List aA} {zx : Array Value} (hz : RL ρ m zs zx) (n : Nat) : RL ρ m (gI zs n) (Builtin.zeroCells zx n) := by
 have := qX hz n
 exact this
theorem BO {ts : Array TypeId} {ty t t2 : TypeId} (hts : ts.toList = [t, t2]) {i2 : TI} (hi2 : TOk E.P t2 i2) (hd2 : fD i2.desc = true) {a b : aA} (h : (dF (tY E t a) b).run s = .ok v s') (ho : bU s')
  (hr : Rel E.P ρ m s.heap.get w) (hf : eX ρ s s') {x y : Value} (hx : R ρ m a x) (hy : R ρ m b y) : Out E.P ρ m s w s' v ((Builtin.append_ ts ty #[x, y]).run E.P w) := by
 obtain ⟨kn, hkn⟩ : ∃ kn, i2.desc = .int kn := by
  cases hd : i2.desc with
  | int k => exact ⟨k, rfl⟩
  | _ => rw [hd] at hd2; cases hd2
 obtain rfl : ts = #[t, t2] := by rw [← Array.toArray_toList (xs := ts), hts]
 unfold dF at h
 split at h
 ·rename_i kq kk
  obtain rfl := hy.cY
  unfold tY at h
  obtain ⟨d, s1, h1, h2⟩ := M.aK h
  obtain ⟨⟨i0, hi0, rfl⟩, rfl⟩ := eY h1
  cases hd : i0.desc with
  | slice e =>
   rw [hd] at h2
   obtain ⟨i, s2, h3, h4⟩ := M.aK h2
   obtain ⟨hi, rfl⟩ := kR h3
   cases a with
   | sl id off len cap sz =>
    cases cap with
    | some mm =>
     obtain ⟨hsz, h5⟩ := eH h4
     obtain ⟨_, s3, h6, h7, ho3, _, hnx3⟩ := M.aJ h5 ho
     obtain ⟨hb, e3⟩ := eK h6 ho3
     obtain ⟨g0, g1, g2, g3⟩ := of_decide_eq_true hb
     obtain ⟨ys, s4, h8, h9, ho4, _, hnx4⟩ := M.aJ h7 ho
     have hr3 := hr.bS e3
     obtain ⟨ya, q1, q2, q3, e4⟩ := fF h8 ho4 hr3.drew hx
     have e34 := e3.trans e4
     have hr4 := hr.bS e34
     have hf4 := hf.bS e34
     obtain ⟨j, z, hj, hjs, hjb, hjz, hz⟩ := hi.CU
     have hzc := hi.rZ (ρ := ρ) (m := m) hz
     have hzs : z.cells.size = i.size := by rw [← hzc.len, hi.zR]
     have hxl : RL ρ m (ys ++ gI i.zero.cells kk.toNat) (ya ++ Builtin.zeroCells z.cells kk.toNat) := q2.append (wD hzc _)
     have hlen : (ys ++ gI i.zero.cells kk.toNat).length = (len + kk.toNat) * i.size := by
      rw [List.length_append, q3, lO, hi.zR, Nat.add_mul]
     obtain ⟨dN, hxe⟩ : ∃ dN : Option Addr, x = .slice dN len mm := by
      cases hx with
      | slx _ _ _ c _ r hρ hl => exact ⟨_, rfl⟩
      | sl0 _ _ _ _ ad hc hn =>
       have := hc mm rfl
       subst this
       exact ⟨_, rfl⟩
     subst hxe
     obtain ⟨b1, b2, _⟩ := oX h9 ho hr4.drew hf4 hi hxl hlen (len + kk.toNat) (Nat.le_refl _) (Array.replicate i.size Go.undef) (by simp)
     have hk : kk = ((kk.toNat : Nat) : Int) := by omega
     have hnx := nE g1
     have hb : i.bytes * 1 ≤ i.bytes * 1 := Nat.le_refl _
     have run := Lib.run_append_grow_zeros w t t2 ty e j z kq kn (by rw [hi0.und, hd]) (by rw [hi2.und, hkn]) hj hjz dN len mm ya.toList (by rw [hjs]; simpa using q1) kk.toNat (by omega) (by omega) g1 (by omega)
      (by
       rw [hjb]
       refine Nat.le_trans (Nat.mul_le_mul_right _ ?_) b1
       omega)
      (by
       rw [hjb]
       exact Nat.le_trans (Nat.mul_le_mul_right _ hnx) b1)
     rw [← hk] at run
     have hcap : len + kk.toNat ≤ grownCap w (len + kk.toNat) mm e := grownCap_ge w _ _ _
     obtain ⟨_, _, ρ', p1, p2⟩ := oX h9 ho hr4.drew hf4 hi hxl hlen _ hcap z.cells hzs
     exact ⟨_, _, ρ', run, (p1.drew).after e34, p2⟩
    | none => exact (aD h4).elim
   | _ => exact (aD h4).elim
  | _ => rw [hd] at h2; exact (aD h2).elim
 ·exact (aD h).elim
theorem DI {ts : Array TypeId} {ty t t2 : TypeId} {bM : List TypeId} (hts : ts.toList = t :: t2 :: bM) {i2 : TI} (hi2 : TOk E.P t2 i2) (hd2 : fD i2.desc = false) {a b : aA} (h : (append E t a b).run s = .ok v s') (ho : bU s')
  (hr : Rel E.P ρ m s.heap.get w) (hf : eX ρ s s') {x y : Value} (hx : R ρ m a x) (hy : R ρ m b y) : Out E.P ρ m s w s' v ((Builtin.append_ ts ty #[x, y]).run E.P w) := by
 obtain ⟨d, s1, h1, h2⟩ := M.aK h
 obtain ⟨⟨i0, hi0, rfl⟩, rfl⟩ := eY h1
 have hu := hi0.dT (w := w)
 have hu2 := hi2.dT (w := w)
 cases hd : i0.desc with
 | slice e =>
  rw [hd] at h2 hu
  obtain ⟨i, s2, h3, h4⟩ := M.aK h2
  obtain ⟨hi, rfl⟩ := kR h3
  obtain ⟨n, s3, h5, h6⟩ := M.aK h4
  obtain ⟨rfl, hn⟩ := m7 (P := E.P) (w := w) h5 hy
  obtain ⟨nothing, s4, h7, h8, ho4, _, hnx⟩ := M.aJ h6 ho
  obtain ⟨hq, e4⟩ := oO h7 ho4
  have hr4 := hr.bS e4
  have hf4 := hf.bS e4
  cases nothing with
  | true =>
   have hn0 : n = 0 := Nat.eq_of_beq_eq_true hq.symm
   subst hn0
   have hfc := tB (P := E.P) (w := w) h5 hy i.size
   have fin : ∀ (dN : Option Addr) (l c : Nat), l ≤ c → (Builtin.append_ ts ty #[.slice dN l c, y]).run E.P w = .ok (.slice dN l c) w := fun dN l c hlc =>
    jA hts hu hu2 hd2 hi hn (by omega) hfc (fun a _ => rfl) (fun _ => rfl)
   try simp only at h8
   split at h8
   ·obtain ⟨rfl, rfl⟩ := aC h8
    cases hx with
    | aT => rw [fin none 0 0 (Nat.le_refl _)]; exact .same hr e4 .aT
   ·obtain ⟨rfl, rfl⟩ := aC h8
    cases hx with
    | emp ad => rw [fin ad 0 0 (Nat.le_refl _)]; exact .same hr e4 (.emp _)
   ·obtain ⟨rfl, rfl⟩ := aC h8
    cases hx with
    | slx _ _ _ c _ r hρ hl => rw [fin _ _ _ hl]; exact .same hr e4 (.slx _ _ _ _ _ r hρ hl)
    | slw _ _ _ c _ r hρ hl hs hc => rw [fin _ _ _ hl]; exact .same hr e4 (.slw _ _ _ _ _ r hρ hl hs hc)
    | sl0 _ _ _ _ ad hc hn' => rw [fin _ _ _ (Nat.le_refl _)]; exact .same hr e4 (.sl0 _ _ _ _ _ hc hn')
   ·obtain ⟨rfl, rfl⟩ := aC h8
    cases hx with
    | isl _ _ _ _ b o c g' hg hrr hl => rw [fin _ _ _ hl]; exact .same hr e4 (.isl _ _ _ _ b o c g' hg hrr hl)
    | sH _ _ _ c ad => rw [fin _ _ _ (Nat.zero_le _)]; exact .same hr e4 (.sH _ _ _ _ _)
   ·exact (aD h8).elim
  | false =>
   have hn0 : n ≠ 0 := by rintro rfl; cases hq
   obtain ⟨xs, s5, h9, h10, ho5, _, _⟩ := M.aJ h8 ho
   obtain ⟨xa, k1, k2, k3, e5⟩ := fF h9 ho5 hr4 hy
   obtain ⟨xa1, q1, q2, q3, _⟩ := fF h9 ho5 hr4.drew hy
   have e45 := e4.trans e5
   have hr5 := hr.bS e45
   have hf5 := hf.bS e45
   have fc0 : ∀ (o : Option Addr) (l c : Nat) (w : World), (Builtin.firstCells i.size 0 (.slice o l c)).run E.P w = .ok #[] w := by
    intro o l c w
    cases o with
    | none => rfl
    | some ad => simp only [Builtin.firstCells, Nat.zero_mul]; rfl
   try simp only at h10
   split at h10
   ·cases hx with
    | aT =>
     obtain ⟨z, w', ρ', g1, g2, g3⟩ := mC (ys := []) (dN := none) (sLen := 0) (sCap := 0) (ty := ty) hts hu hu2 hd2 hi hn (by omega) (fc0 _ _ _ _) q1 .nil q2 (by simp) q3 (by omega) h10 ho hr5 hf5
     exact ⟨z, w', ρ', g1, g2.after e45, g3⟩
   ·cases hx with
    | emp ad =>
     obtain ⟨z, w', ρ', g1, g2, g3⟩ := mC (ys := []) (dN := ad) (sLen := 0) (sCap := 0) (ty := ty) hts hu hu2 hd2 hi hn (by omega) (fc0 _ _ _ _) q1 .nil q2 (by simp) q3 (by omega) h10 ho hr5 hf5
     exact ⟨z, w', ρ', g1, g2.after e45, g3⟩
   ·rename_i id off len cap sz
    obtain ⟨hsz, h11⟩ := eH h10
    obtain ⟨bb, s6, h12, h13, ho6, _, _⟩ := M.aJ h11 ho
    obtain ⟨hg, e6⟩ := eC h12
    obtain ⟨c, t', rfl, h14⟩ := iU h13
    have e46 := e45.trans e6
    cases cap with
    | some mm =>
     obtain ⟨fits, s7, h15, h16, ho7, _, _⟩ := M.aJ h14 ho
     obtain ⟨hq2, e7⟩ := oO h15 ho7
     have e47 := e46.trans e7
     have hr7 := hr.bS e47
     have hf7 := hf.bS e47
     cases fits with
     | true =>
      have hle : len + n ≤ mm := Nat.le_of_ble_eq_true hq2.symm
      obtain ⟨_, s8, h17, h18⟩ := M.aK h16
      obtain ⟨rfl, rfl⟩ := aC h18
      cases hx with
      | slx _ _ _ _ _ r hρ hl =>
       obtain ⟨ad, w', g1, g2, g3⟩ := iG h17 ho hr7 (.ptr id (off + len * i.size) r hρ) (xs := xa.toList) (by simpa using k2.len) (fun j p q hp hq => k2.at_ j p q hp (by simpa using hq))
       injection g1 with g1
       injection g1 with g1
       subst g1
       refine ⟨_, w', ρ, jA hts hu hu2 hd2 hi hn hle k1 (fun a ha => ?_) (fun h => by cases h), g3.after e47, .slx _ _ _ _ _ r hρ hle⟩
       injection ha with ha
       subst ha
       rw [eO]; exact g2
      | sl0 _ _ _ _ ad hc hn' =>
       have := hc mm rfl
       omega
     | false =>
      have hle : ¬ len + n ≤ mm := fun x => by
       have : (len + n).ble mm = true := Nat.ble_eq_true_of_le x
       rw [this] at hq2; cases hq2
      obtain ⟨ys, s8, h17, h18, ho8, _, _⟩ := M.aJ h16 ho
      obtain ⟨ya, p1, p2, p3, e8⟩ := fF h17 ho8 hr7.drew hx
      have e48 := e47.trans e8
      cases hx with
      | slx _ _ _ _ _ r hρ hl =>
       obtain ⟨z, w', ρ', g1, g2, g3⟩ := mC (ty := ty) hts hu hu2 hd2 hi hn hle p1 q1 p2 q2 p3 q3 rfl h18 ho (hr.bS e48) (hf.bS e48)
       exact ⟨z, w', ρ', g1, g2.after e48, g3⟩
      | sl0 _ _ _ _ ad hc hn' =>
       obtain rfl := hc mm rfl
       obtain ⟨z, w', ρ', g1, g2, g3⟩ := mC (ty := ty) hts hu hu2 hd2 hi hn hle p1 q1 p2 q2 p3 q3 rfl h18 ho (hr.bS e48) (hf.bS e48)
       exact ⟨z, w', ρ', g1, g2.after e48, g3⟩
    | none =>
     obtain ⟨fits, s7, h15, h16, ho7, _, _⟩ := M.aJ h14 ho
     obtain ⟨hq2, e7⟩ := oO h15 ho7
     have e47 := e46.trans e7
     have hr7 := hr.bS e47
     have hf7 := hf.bS e47
     have hg7 : s7.heap.get id = some (.row c t') := by rw [e7.heap, e6.heap]; exact hg
     cases fits with
     | true =>
      have hle : off + (len + n) * i.size ≤ c.size := Nat.le_of_ble_eq_true hq2.symm
      obtain ⟨_, s8, h17, h18, ho8, _, _⟩ := M.aJ h16 ho
      obtain ⟨hpos, e8⟩ := eK h17 ho8
      have hpos' : 0 < i.size := Nat.le_of_ble_eq_true hpos
      have e48 := e47.trans e8
      have hr8 := hr.bS e48
      obtain ⟨_, s9, h19, h20⟩ := M.aK h18
      obtain ⟨rfl, rfl⟩ := aC h20
      cases hx with
      | slw _ _ _ cc _ r hρ hl hs hc =>
       obtain ⟨arr, fr, _, _, hn', hcs, _⟩ := hr7.row hg7 hρ
       have hfit : len + n ≤ cc := by
        have : (len + n) * i.size ≤ cc * i.size := by rw [← hsz]; rw [← hsz] at hle; omega
        exact Nat.le_of_mul_le_mul_right this hpos'
       obtain ⟨ad, w', g1, g2, g3⟩ := iG h19 ho hr8 (.ptr id (off + len * i.size) r hρ) (xs := xa.toList) (by simpa using k2.len) (fun j p q hp hq => k2.at_ j p q hp (by simpa using hq))
       injection g1 with g1
       injection g1 with g1
       subst g1
       refine ⟨_, w', ρ, jA hts hu hu2 hd2 hi hn hfit k1 (fun a ha => ?_) (fun h => by cases h), g3.after e48, .slw _ _ _ _ _ r hρ hfit hs hc⟩
       injection ha with ha
       subst ha
       rw [eO]; exact g2
      | sl0 _ _ _ _ ad hc hn' =>
       obtain ⟨r, hρ, hro⟩ := hn' rfl
       obtain ⟨arr, fr, _, _, hn', hcs, _⟩ := hr7.row hg7 hρ
       have : 0 < (0 + n) * i.size := Nat.mul_pos (by omega) hpos'
       omega
     | false =>
      have hle : ¬ off + (len + n) * i.size ≤ c.size := fun x => by
       have : (off + (len + n) * i.size).ble c.size = true := Nat.ble_eq_true_of_le x
       rw [this] at hq2; cases hq2
      try simp only at h16
      split at h16
      ·rename_i hc0
       simp only [Bool.and_eq_true] at hc0
       have hoff : off = 0 := Nat.eq_of_beq_eq_true hc0.1.1
       have hte : t' = e := Nat.eq_of_beq_eq_true hc0.1.2
       subst hoff
       subst hte
       obtain ⟨ys, s8, h17, h18, ho8, _, _⟩ := M.aJ h16 ho
       obtain ⟨ya, p1, p2, p3, e8⟩ := fF h17 ho8 hr7.drew hx
       obtain ⟨ya0, p1', p2', p3', _⟩ := fF h17 ho8 hr7 hx
       have e48 := e47.trans e8
       obtain ⟨_, s9, h19, h20⟩ := M.aK h18
       obtain ⟨_, kn, kh⟩ := E3 h19
       have hr9 : Rel E.P ρ m s9.heap.get w := (hr.bS e48).CT kh
       have hf9 : eX ρ s9 s' := fun id hid => (hf.bS e48) id ⟨by have := hid.1; omega, hid.2⟩
       have toS : ∀ {ρ' : Ren} {w' : World}, eW E.P ρ m s9 w ρ' m s' w' → eW E.P ρ m _ w ρ' m s' w' := fun g2 =>
        (eW.mk g2.ren (fun id hid => (g2.new id hid).imp_right fun x => ⟨by have := x.1; omega, x.2⟩) g2.mem g2.rel g2.fr (by have := g2.next; omega) : eW E.P ρ m s8 w _ m s' _).after e48
       cases hx with
       | slw _ _ _ cc _ r hρ hl hs hc =>
        by_cases hfit : len + n ≤ cc
        ·-- dC is room after all
         obtain ⟨_, s10, h21, h22, ho10, _, _⟩ := M.aJ h20 ho
         obtain ⟨_, e10⟩ := eK h21 ho10
         obtain ⟨id', s11, h23, h24⟩ := M.aK h22
         obtain ⟨rfl, rfl⟩ := aC h24
         obtain ⟨n1, n2, n3⟩ := yS h23
         obtain ⟨arr, fr, ha, hes, han, hcs, hrr, hfr, hm⟩ := hr7.row hg7 hρ
         have hone : ∀ y ∈ xa.toList, y.oneCell' = true := by
          intro y hy
          obtain ⟨j, hj⟩ := List.getElem?_of_mem hy
          have hj' : xa[j]? = some y := by simpa using hj
          have hlt := (Array.getElem?_eq_some_iff.1 hj').1
          have hv : xs[j]? = some (xs[j]'(by rw [k2.len]; exact hlt)) := List.getElem?_eq_getElem _
          exact (k2.at_ j _ _ hv hj').bK (List.all_eq_true.1 hc0.2 _ (List.getElem_mem _))
         have hsz' : len * i.size + 0 + xa.toList.length ≤ arr.size := by
          have h1 : xa.size = n * i.size := by rw [← k2.len]; exact k3
          have h2 : (len + n) * i.size ≤ cc * sz := by rw [hsz]; exact Nat.mul_le_mul_right _ hfit
          rw [Nat.add_mul] at h2
          simp only [Array.length_toList]; omega
         obtain ⟨arr', g1, g2, g3⟩ := nQ E.P r.b (len * i.size) t' fr xa.toList 0 w arr ha hfr.out hsz' hone
         have hys : ys = c.sub 0 (len * i.size) := by
          obtain ⟨_, u1⟩ := eH h17
          obtain ⟨b2, u2, u3, u4⟩ := M.aK u1
          obtain ⟨u5, u6⟩ := eC u3
          obtain ⟨c2, t2', u7, u8⟩ := iU u4
          rw [hg7] at u5
          injection u5 with u5
          rw [u7] at u5
          injection u5 with u5 _
          obtain ⟨_, u9, u10, u11⟩ := M.aK u8
          obtain ⟨_, u12, u13, u14⟩ := M.aK u11
          obtain ⟨u15, _⟩ := aC u14
          rw [u15, u5]
         have hcl : len * i.size ≤ c.size := by
          obtain ⟨_, u1⟩ := eH h17
          obtain ⟨b2, u2, u3, u4, uo2, _, _⟩ := M.aJ u1 ho8
          obtain ⟨u5, u6⟩ := eC u3
          obtain ⟨c2, t2', u7, u8⟩ := iU u4
          rw [hg7] at u5
          injection u5 with u5
          rw [u7] at u5
          injection u5 with u5 _
          obtain ⟨_, u9, u10, u11, uo3, _, _⟩ := M.aJ u8 ho8
          obtain ⟨_, u12, u13, u14, uo4, _, _⟩ := M.aJ u11 ho8
          obtain ⟨u15, _⟩ := eK u13 uo4
          have := Nat.le_of_ble_eq_true u15
          rw [← u5] at this
          omega
         have hfresh : ρ id' = none := hf9 id' ⟨by have := e10.next; omega, by have := e10.next; omega⟩
         have hbr : BR E.P ρ m r (.row (.l (ys ++ xs)) t') (.cells arr' t' fr) := by
          refine .row r (.l (ys ++ xs)) t' arr' fr hes (by rw [g2]; exact han) ?_ ?_ (by rw [g2]; exact hfr)
          ·rw [g2, han, ← hc, ← hs]
           simp only [bH.size, List.length_append, p3', q3]
           rw [← Nat.add_mul]
           have : (len + n) * i.size ≤ cc * r.s := by rw [hs, hsz]; exact Nat.mul_le_mul_right _ hfit
           omega
          ·intro j z hj hz
           simp only [bH.size, List.length_append, p3', q3] at hj
           simp only [bH.at, gJ]
           rw [g3 j] at hz
           by_cases c1 : j < len * i.size
           ·have c2 : ¬ (len * i.size + 0 ≤ j ∧ j < len * i.size + 0 + xa.toList.length) := by omega
            rw [if_neg c2] at hz
            rw [List.getElem?_append_left (by rw [p3']; exact c1), hys, bH.tG (by omega) c1, Nat.zero_add]
            exact hrr j z (by omega) hz
           ·have hxl : xa.toList.length = n * i.size := by
             have : xa.size = n * i.size := by rw [← k2.len]; exact k3
             simpa using this
            have c2 : len * i.size + 0 ≤ j ∧ j < len * i.size + 0 + xa.toList.length := by omega
            rw [if_pos c2] at hz
            rw [List.getElem?_append_right (by rw [p3']; omega), p3']
            have hv : xs[j - len * i.size]? = some (xs[j - len * i.size]'(by rw [k3]; omega)) := List.getElem?_eq_getElem _
            rw [hv]
            exact k2.at_ _ _ _ hv (by simpa using hz)
         have hr8 := hr.bS e48
         have hg8 : s8.heap.get id = some (.row c t') := by rw [e8.heap]; exact hg7
         have hu1 := hr8.upd (h' := fun j => if j = id then some (.row (.l (ys ++ xs)) t') else s8.heap.get j) hg8 hρ hbr (fun j => rfl)
         have hu2' := hu1.GY (id := id) (id' := id') (h' := s'.heap.get) (b := .row (.l (ys ++ xs)) t') (by simp) hρ hfresh (fun j => by
          rw [n3 j, e10.heap, kh j]
          by_cases c1 : j = id'
          ·simp [c1]
          ·by_cases c2 : j = id
           ·simp [c1, c2]
           ·simp [c1, c2])
         refine ⟨_, _, ρ.put id' r, jA hts hu hu2 hd2 hi hn hfit k1 (w' := World.upd w r.b (.cells arr' t' fr)) (fun a ha => ?_) (fun h => by cases h), toS ⟨gU.put hfresh, fun j hj => ?_, fun _ _ h => h, hu2', World.pR _ _ _, by have := e10.next; omega⟩, .slw id' 0 _ _ _ r (by simp [Ren.put]) hfit (hs.trans hsz) (by rw [← hsz]; exact hc)⟩
         ·injection ha with ha
          subst ha
          rw [eO, Nat.zero_add]; exact g1
         ·unfold Ren.put at hj
          by_cases c1 : j = id'
          ·exact .inr ⟨by have := e10.next; omega, by have := e10.next; omega⟩
          ·simp only [c1, if_false] at hj
           exact .inl hj
        ·obtain ⟨z, w', ρ', g1, g2, g3⟩ := mC (ty := ty) hts hu hu2 hd2 hi hn hfit p1 q1 p2 q2 p3 q3 rfl h20 ho hr9 hf9
         exact ⟨z, w', ρ', g1, toS g2, g3⟩
       | sl0 _ _ _ _ ad hc hn' =>
        obtain ⟨z, w', ρ', g1, g2, g3⟩ := mC (ty := ty) hts hu hu2 hd2 hi hn (by omega) p1 q1 p2 q2 p3 q3 rfl h20 ho hr9 hf9
        exact ⟨z, w', ρ', g1, toS g2, g3⟩
      ·exact (aD h16).elim
   ·exact (aD h10).elim
 | _ => rw [hd] at h2; exact (aD h2).elim
end
end Go.Am
set_option linter.unusedSimpArgs false
set_option linter.unusedVariables false
namespace Go.Am
open Go
variable {E : Env}
section
variable {ρ : Ren} {m : Mem} {s s' : St} {w : World} {v : aA}
theorem FJ {P : Program} {op : BinOp} {k : IntKind} {a b : Int} (h : (intOp op k a b).run s = .ok v s') (ho : bU s') (hr : Rel P ρ m s.heap.get w) (t : TypeId) :
    Out P ρ m s w s' v ((Go.binOp op t (.int k a) (.int k b)).run P w) := by
  cases op <;> simp only [intOp] at h
  case quo =>
    obtain ⟨_, s1, h1, h2, ho1, _, _⟩ := M.aJ h ho
    obtain ⟨h3, e⟩ := eK h1 ho1
    obtain ⟨rfl, rfl⟩ := aC h2
    have hb : ¬ b = 0 := of_decide_eq_true h3
    simp only [Go.binOp, ne_eq, not_true_eq_false, if_false, Op.intDiv, hb, Sem.run_pure]
    exact .same hr e (.int _ _)
  case rem =>
    obtain ⟨_, s1, h1, h2, ho1, _, _⟩ := M.aJ h ho
    obtain ⟨h3, e⟩ := eK h1 ho1
    obtain ⟨rfl, rfl⟩ := aC h2
    have hb : ¬ b = 0 := of_decide_eq_true h3
    simp only [Go.binOp, ne_eq, not_true_eq_false, if_false, Op.intDiv, hb, Sem.run_pure]
    exact .same hr e (.int _ _)
  case shl => exact (aD h).elim
  case shr => exact (aD h).elim
  all_goals
    obtain ⟨rfl, rfl⟩ := aC h
    simp only [Go.binOp, ne_eq, not_true_eq_false, if_false, Op.intArith, Op.intBits, Op.intCmp, Sem.run_pure]
    first
      | exact .same hr (.refl _) (.int _ _)
      | exact .same hr (.refl _) (.bool _)
theorem A4 {P : Program} {op : BinOp} {k k' : IntKind} {a b : Int} (h : (cD op k a b).run s = .ok v s') (ho : bU s') (hr : Rel P ρ m s.heap.get w) (t : TypeId) :
    Out P ρ m s w s' v ((Go.binOp op t (.int k a) (.int k' b)).run P w) := by
  obtain ⟨_, s1, h1, h2, ho1, _, _⟩ := M.aJ h ho
  obtain ⟨h3, e⟩ := eK h1 ho1
  have hb : ¬ b < 0 := by have := of_decide_eq_true h3; omega
  cases op <;> simp only at h2
  case shl =>
    obtain ⟨rfl, rfl⟩ := aC h2
    simp only [Go.binOp, Op.shift, hb, if_false, Sem.run_pure]
    exact .same hr e (.int _ _)
  case shr =>
    obtain ⟨rfl, rfl⟩ := aC h2
    simp only [Go.binOp, Op.shift, hb, if_false, Sem.run_pure]
    exact .same hr e (.int _ _)
  all_goals exact (aD h2).elim
theorem toList_eq (l : List UInt8) : (⟨⟨l⟩⟩ : ByteArray).toList = l := by
  rw [ByteArray.toList_eq]
theorem EP {P : Program} {op : BinOp} {x y : List UInt8} (h : (strOp op x y).run s = .ok v s') (ho : bU s') (hr : Rel P ρ m s.heap.get w) (t : TypeId) :
    Out P ρ m s w s' v ((Go.binOp op t (.string ⟨⟨x⟩⟩) (.string ⟨⟨y⟩⟩)).run P w) := by
  cases op <;> simp only [strOp] at h
  case add =>
    obtain ⟨_, s1, h1, h2, ho1, _, _⟩ := M.aJ h ho
    obtain ⟨h3, e⟩ := eK h1 ho1
    obtain ⟨rfl, rfl⟩ := aC h2
    have h4 := of_decide_eq_true h3
    have hsz : ¬ ((((⟨⟨x⟩⟩ : ByteArray).size + (⟨⟨y⟩⟩ : ByteArray).size : Nat) : Int) > IntKind.i64.max) := by
      have e1 : (⟨⟨x⟩⟩ : ByteArray).size = x.length := rfl
      have e2 : (⟨⟨y⟩⟩ : ByteArray).size = y.length := rfl
      have e3 : IntKind.i64.max = 9223372036854775807 := rfl
      rw [e1, e2, e3]; omega
    have happ : (⟨⟨x⟩⟩ ++ ⟨⟨y⟩⟩ : ByteArray) = ⟨⟨x ++ y⟩⟩ := by
      have : (⟨⟨x⟩⟩ ++ ⟨⟨y⟩⟩ : ByteArray).data = ⟨x ++ y⟩ := by rw [ByteArray.data_append]; simp
      cases hh : (⟨⟨x⟩⟩ ++ ⟨⟨y⟩⟩ : ByteArray) with
      | mk d => rw [hh] at this; simp only at this; rw [this]
    simp only [Go.binOp, Op.stringOp, hsz, if_false, Sem.run_pure, happ]
    exact .same hr e (.str _)
  all_goals
    first
      | exact (aD h).elim
      | (obtain ⟨rfl, rfl⟩ := aC h
         simp only [Go.binOp, Op.stringOp, Sem.run_pure, toList_eq]
         exact .same hr (.refl _) (.bool _))
theorem pF {a : aA} {b : Bool} (h : (c8 a).run s = .ok b s') {x : Value} (hx : R ρ m a x) : s' = s ∧ x = .bool b := by
  unfold c8 at h
  split at h
  · obtain ⟨rfl, rfl⟩ := aC h; exact ⟨rfl, hx.bool_inv⟩
  · obtain ⟨rfl, rfl⟩ := aC h; exact ⟨rfl, hx.oM⟩
  · exact (aD h).elim
theorem oU {a : aA} {b : Bool} (h : (bZ a).run s = .ok b s') {x : Value} (hx : R ρ m a x) : s' = s ∧ ((b = true ∧ x = .pointer none) ∨ (b = false ∧ ∃ ad, x = .pointer (some ad))) := by
  unfold bZ at h
  split at h
  · obtain ⟨rfl, rfl⟩ := aC h; cases hx; exact ⟨rfl, .inl ⟨rfl, rfl⟩⟩
  · obtain ⟨rfl, rfl⟩ := aC h; cases hx; exact ⟨rfl, .inr ⟨rfl, _, rfl⟩⟩
  · obtain ⟨rfl, rfl⟩ := aC h; cases hx; exact ⟨rfl, .inr ⟨rfl, _, rfl⟩⟩
  · exact (aD h).elim
theorem rC {a : aA} {b : Bool} (h : (cM a).run s = .ok b s') {x : Value} (hx : R ρ m a x) : s' = s ∧ ((b = true ∧ x = .nilFunc) ∨ (b = false ∧ ∃ f p q, x = .func f p q)) := by
  unfold cM at h
  split at h
  · obtain ⟨rfl, rfl⟩ := aC h; cases hx; exact ⟨rfl, .inl ⟨rfl, rfl⟩⟩
  · obtain ⟨rfl, rfl⟩ := aC h; cases hx; exact ⟨rfl, .inr ⟨rfl, _, _, _, rfl⟩⟩
  · exact (aD h).elim
theorem rB {a : aA} {b : Bool} (h : (pM a).run s = .ok b s') {x : Value} (hx : R ρ m a x) : s' = s ∧ ((b = true ∧ x = .slice none 0 0) ∨ (b = false ∧ ∃ ad l c, x = .slice (some ad) l c)) := by
  unfold pM at h
  split at h
  · obtain ⟨rfl, rfl⟩ := aC h; cases hx; exact ⟨rfl, .inl ⟨rfl, rfl⟩⟩
  · obtain ⟨rfl, rfl⟩ := aC h; cases hx <;> exact ⟨rfl, .inr ⟨rfl, _, _, _, rfl⟩⟩
  · obtain ⟨rfl, rfl⟩ := aC h; cases hx <;> exact ⟨rfl, .inr ⟨rfl, _, _, _, rfl⟩⟩
  · exact (aD h).elim
theorem oV {a : aA} {b : Bool} (h : (yQ a).run s = .ok b s') {x : Value} (hx : R ρ m a x) : s' = s ∧ ((b = true ∧ x = .map none) ∨ (b = false ∧ ∃ r, x = .map (some r))) := by
  unfold yQ at h
  split at h
  · obtain ⟨rfl, rfl⟩ := aC h; cases hx; exact ⟨rfl, .inl ⟨rfl, rfl⟩⟩
  · obtain ⟨rfl, rfl⟩ := aC h; cases hx; exact ⟨rfl, .inr ⟨rfl, _, rfl⟩⟩
  · exact (aD h).elim
theorem tT : ∀ (l : List (QE E.P)) (t : Nat), zE E l t = true → E.P.stoodInHeld t = false ∧ E.P.eqGuardType E.P.depth t = false
  | [], _, h => by cases h
  | q :: l, t, h => by
    simp only [zE, Bool.or_eq_true] at h
    rcases h with h | h
    · have := Nat.eq_of_beq_eq_true h
      rw [← this]
      exact ⟨q.Q9, q.guard⟩
    · exact tT l t h
def rN (d : Nat) (e : TypeId) (n : Nat) (xs ys : Array Value) : List Nat → Sem Bool
  | [] => pure true
  | i :: l => do
      let a ← Go.part e xs (i * n)
      let b ← Go.part e ys (i * n)
      let r ← Op.equalIn d e a b
      if (!r) = true then pure false else rN d e n xs ys l
theorem qV {P : Program} (w : World) (d : Nat) (t : TypeId) (xs ys : Array Value) {n : Nat} {e : TypeId} {z : Nat} (ht : P.underlying t = some (.array n e)) (hz : ∀ {w : World}, (Go.sizeOf e).run P w = .ok z w) :
    (Op.equalIn (d + 1) t (.agg xs) (.agg ys)).run P w = (rN d e z xs ys (List.range n)).run P w := by
  simp only [Op.equalIn, Sem.run_bind, run_underlying ht, Result.andThen_ok, hz]
  rw [Std.Legacy.Range.forIn_eq_forIn_range']
  simp only [Std.Legacy.Range.size, Nat.sub_zero, Nat.add_sub_cancel, Nat.div_one, ← List.range_eq_range']
  generalize List.range n = fs
  clear ht
  induction fs generalizing w with
  | nil => simp [rN]
  | cons f fs ih =>
    simp only [List.forIn_cons, rN, Sem.run_bind, Sem.run_ite]
    generalize (Go.part e xs (f * z)).run P w = r1
    cases r1 with
    | ok a w1 =>
      simp only [Result.andThen_ok]
      generalize (Go.part e ys (f * z)).run P w1 = r2
      cases r2 with
      | ok b w2 =>
        simp only [Result.andThen_ok]
        generalize (Op.equalIn d e a b).run P w2 = r3
        cases r3 with
        | ok r w3 =>
          cases r
          · simp only [Result.andThen_ok, Bool.not_false, if_true, Sem.run_pure]
          · simp only [Result.andThen_ok, Bool.not_true, Bool.false_eq_true, if_false, Sem.run_pure]
            exact ih w3
        | halt x w3 => simp [Result.andThen]
      | halt x w2 => simp [Result.andThen]
    | halt x w1 => simp [Result.andThen]
theorem sM : ∀ (d k : Nat) {t : TypeId} {a b : aA} {c : Bool} {s s' : St}, (equal E d t a b).run s = .ok c s' → bU s' → ∀ {x y : Value}, R ρ m a x → R ρ m b y → ∀ w : World,
    fS s s' ∧ (Op.equalIn (d + k) t x y).run E.P w = .ok c w := by
  intro d
  induction d with
  | zero => intro k t a b c s s' h; exact (aD h).elim
  | succ d ih =>
    intro k t a b c s s' h ho x y hx hy w
    obtain ⟨u, s1, h1, h2⟩ := M.aK h
    obtain ⟨⟨i, hi, rfl⟩, rfl⟩ := eY h1
    have hu := hi.dT (w := w)
    have ek : d + 1 + k = (d + k) + 1 := by omega
    rw [ek]
    cases hd : i.desc with
    | bool =>
      rw [hd] at h2 hu
      obtain ⟨p, s2, h3, h4⟩ := M.aK h2
      obtain ⟨rfl, rfl⟩ := pF h3 hx
      obtain ⟨q, s3, h5, h6⟩ := M.aK h4
      obtain ⟨rfl, rfl⟩ := pF h5 hy
      obtain ⟨rfl, rfl⟩ := aC h6
      exact ⟨.refl _, by simp only [Op.equalIn, Sem.run_bind, hu, Result.andThen_ok, Sem.run_pure]⟩
    | int kk =>
      rw [hd] at h2 hu
      simp only at h2
      split at h2
      · split at h2
        · rename_i k1 n1 _ k2 n2
          split at h2
          · rename_i hk
            have hk' : k1 = k2 := of_decide_eq_true hk
            subst hk'
            obtain ⟨rfl, rfl⟩ := aC h2
            obtain rfl := hx.cY
            obtain rfl := hy.cY
            exact ⟨.refl _, by simp only [Op.equalIn, Sem.run_bind, hu, Result.andThen_ok, if_true, Sem.run_pure]⟩
          · exact (aD h2).elim
        · exact (aD h2).elim
      · exact (aD h2).elim
    | string =>
      rw [hd] at h2 hu
      obtain ⟨l, rfl, h3⟩ := kT h2
      obtain ⟨l', rfl, h4⟩ := kT h3
      obtain ⟨rfl, rfl⟩ := aC h4
      obtain rfl := hx.gX
      obtain rfl := hy.gX
      refine ⟨.refl _, ?_⟩
      have : ((⟨⟨l⟩⟩ : ByteArray) == ⟨⟨l'⟩⟩) = (l == l') := by
        rw [beq_toListBytes, toList_eq, toList_eq]
      simp only [Op.equalIn, Sem.run_bind, hu, Result.andThen_ok, Sem.run_pure, this]
    | pointer e =>
      rw [hd] at h2 hu
      obtain ⟨p, s2, h3, h4⟩ := M.aK h2
      obtain ⟨rfl, hp⟩ := oU h3 hx
      obtain ⟨q, s3, h5, h6⟩ := M.aK h4
      obtain ⟨rfl, hq⟩ := oU h5 hy
      rcases hp with ⟨rfl, rfl⟩ | ⟨rfl, ad, rfl⟩
      · obtain ⟨rfl, rfl⟩ := aC h6
        rcases hq with ⟨rfl, rfl⟩ | ⟨rfl, ad, rfl⟩
        · exact ⟨.refl _, by simp only [Op.equalIn, Sem.run_bind, hu, Result.andThen_ok, Sem.run_pure]; rfl⟩
        · exact ⟨.refl _, by simp only [Op.equalIn, Sem.run_bind, hu, Result.andThen_ok, Sem.run_pure]; rfl⟩
      · rcases hq with ⟨rfl, rfl⟩ | ⟨rfl, ad', rfl⟩
        · obtain ⟨rfl, rfl⟩ := aC h6
          exact ⟨.refl _, by simp only [Op.equalIn, Sem.run_bind, hu, Result.andThen_ok, Sem.run_pure]; rfl⟩
        · exact (aD h6).elim
    | func a1 b1 c1 =>
      rw [hd] at h2 hu
      obtain ⟨p, s2, h3, h4⟩ := M.aK h2
      obtain ⟨rfl, hp⟩ := rC h3 hx
      obtain ⟨q, s3, h5, h6⟩ := M.aK h4
      obtain ⟨rfl, hq⟩ := rC h5 hy
      rcases hp with ⟨rfl, rfl⟩ | ⟨rfl, f, pp, qq, rfl⟩
      · obtain ⟨rfl, rfl⟩ := aC h6
        rcases hq with ⟨rfl, rfl⟩ | ⟨rfl, f, pp, qq, rfl⟩
        · exact ⟨.refl _, by simp only [Op.equalIn, Sem.run_bind, hu, Result.andThen_ok, Sem.run_pure, Bool.and_self]⟩
        · exact ⟨.refl _, by simp only [Op.equalIn, Sem.run_bind, hu, Result.andThen_ok, Sem.run_pure, Bool.and_false]⟩
      · rcases hq with ⟨rfl, rfl⟩ | ⟨rfl, f', pp', qq', rfl⟩
        · obtain ⟨rfl, rfl⟩ := aC h6
          exact ⟨.refl _, by simp only [Op.equalIn, Sem.run_bind, hu, Result.andThen_ok, Sem.run_pure]; rfl⟩
        · exact (aD h6).elim
    | slice e =>
      rw [hd] at h2 hu
      obtain ⟨p, s2, h3, h4⟩ := M.aK h2
      obtain ⟨rfl, hp⟩ := rB h3 hx
      obtain ⟨q, s3, h5, h6⟩ := M.aK h4
      obtain ⟨rfl, hq⟩ := rB h5 hy
      rcases hp with ⟨rfl, rfl⟩ | ⟨rfl, ad, l1, c1, rfl⟩
      · obtain ⟨rfl, rfl⟩ := aC h6
        rcases hq with ⟨rfl, rfl⟩ | ⟨rfl, ad, l1, c1, rfl⟩
        · exact ⟨.refl _, by simp only [Op.equalIn, Sem.run_bind, hu, Result.andThen_ok, Sem.run_pure]; rfl⟩
        · exact ⟨.refl _, by simp only [Op.equalIn, Sem.run_bind, hu, Result.andThen_ok, Sem.run_pure]; rfl⟩
      · rcases hq with ⟨rfl, rfl⟩ | ⟨rfl, ad', l2, c2, rfl⟩
        · obtain ⟨rfl, rfl⟩ := aC h6
          exact ⟨.refl _, by simp only [Op.equalIn, Sem.run_bind, hu, Result.andThen_ok, Sem.run_pure]; rfl⟩
        · exact (aD h6).elim
    | map k1 e1 =>
      rw [hd] at h2 hu
      obtain ⟨p, s2, h3, h4⟩ := M.aK h2
      obtain ⟨rfl, hp⟩ := oV h3 hx
      obtain ⟨q, s3, h5, h6⟩ := M.aK h4
      obtain ⟨rfl, hq⟩ := oV h5 hy
      rcases hp with ⟨rfl, rfl⟩ | ⟨rfl, r, rfl⟩
      · obtain ⟨rfl, rfl⟩ := aC h6
        rcases hq with ⟨rfl, rfl⟩ | ⟨rfl, r, rfl⟩
        · exact ⟨.refl _, by simp only [Op.equalIn, Sem.run_bind, hu, Result.andThen_ok, Sem.run_pure]; rfl⟩
        · exact ⟨.refl _, by simp only [Op.equalIn, Sem.run_bind, hu, Result.andThen_ok, Sem.run_pure]; rfl⟩
      · rcases hq with ⟨rfl, rfl⟩ | ⟨rfl, r', rfl⟩
        · obtain ⟨rfl, rfl⟩ := aC h6
          exact ⟨.refl _, by simp only [Op.equalIn, Sem.run_bind, hu, Result.andThen_ok, Sem.run_pure]; rfl⟩
        · exact (aD h6).elim
    | struct fs =>
      rw [hd] at h2 hu
      simp only at h2
      split at h2
      · rename_i hq
        obtain ⟨hheld, _⟩ := tT _ _ hq
        obtain ⟨l, rfl, h3⟩ := kE h2
        obtain ⟨l', rfl, h4⟩ := kE h3
        obtain ⟨xs, rfl, hxs⟩ := hx.iF
        obtain ⟨ys, rfl, hys⟩ := hy.iF
        have hfs : E.P.fieldsOf t = fs := by simp [Program.fieldsOf, hi.und, hd]
        have hut : E.P.underlying t = some (.struct (E.P.fieldsOf t)) := by rw [hfs, hi.und, hd]
        rw [run_equalIn_struct w (d + k) t xs ys hut hheld, hfs]
        clear h1 h2 h3 h hx hy
        revert c s1 s'
        induction fs.toList with
        | nil =>
          intro c s' ho s1 h
          obtain ⟨rfl, rfl⟩ := aC h
          exact ⟨.refl _, rfl⟩
        | cons f fl ihl =>
          intro c s' ho s1 h
          obtain ⟨p, s2, h5, h6, ho2, _, _⟩ := M.aJ h ho
          obtain ⟨q, s3, h7, h8, ho3, _, _⟩ := M.aJ h6 ho
          obtain ⟨rfl, rfl⟩ := aC h8
          obtain ⟨e2, r2⟩ := ihl ho3 _ h7
          simp only at h5
          split at h5
          · rename_i hn
            have hn' : f.name = "_" := of_decide_eq_true hn
            obtain ⟨rfl, rfl⟩ := aC h5
            refine ⟨e2, ?_⟩
            simp only [Op.eqFields, hn', ne_eq, not_true_eq_false, if_false, r2, Bool.true_and]
          · rename_i hn
            have hn' : ¬ f.name = "_" := of_decide_eq_false hn
            obtain ⟨a1, s4, k1, k2⟩ := M.aK h5
            obtain ⟨rfl, xa, k3, k4⟩ := kB k1 hxs w
            obtain ⟨b1, s5, k5, k6⟩ := M.aK k2
            obtain ⟨rfl, ya, k7, k8⟩ := kB k5 hys w
            obtain ⟨e1, r1⟩ := ih k k6 ho2 k4 k8 w
            refine ⟨e1.trans e2, ?_⟩
            simp only [Op.eqFields, ne_eq, hn', not_false_eq_true, if_true, Sem.run_bind, k3, k7, r1, Result.andThen_ok]
            cases p
            · simp
            · simp [r2]
      · exact (aD h2).elim
    | array n e =>
      rw [hd] at h2 hu
      simp only at h2
      split at h2
      · obtain ⟨l, rfl, h3⟩ := kE h2
        obtain ⟨l', rfl, h4⟩ := kE h3
        obtain ⟨xs, rfl, hxs⟩ := hx.iF
        obtain ⟨ys, rfl, hys⟩ := hy.iF
        obtain ⟨z, s2, h5, h6⟩ := M.aK h4
        obtain ⟨⟨j, hj, rfl⟩, rfl⟩ := gB h5
        rw [qV w (d + k) t xs ys (by rw [hi.und, hd]) hj.dO]
        clear h1 h2 h3 h4 h5 h hx hy
        revert c s2 s'
        induction List.range n with
        | nil =>
          intro c s' ho s2 h
          obtain ⟨rfl, rfl⟩ := aC h
          exact ⟨.refl _, rfl⟩
        | cons q ql ihl =>
          intro c s' ho s2 h
          obtain ⟨p, s3, h5, h6, ho2, _, _⟩ := M.aJ h ho
          obtain ⟨q1, s4, h7, h8, ho3, _, _⟩ := M.aJ h6 ho
          obtain ⟨rfl, rfl⟩ := aC h8
          obtain ⟨e2, r2⟩ := ihl ho3 _ h7
          obtain ⟨a1, s5, k1, k2⟩ := M.aK h5
          obtain ⟨rfl, xa, k3, k4⟩ := kB k1 hxs w
          obtain ⟨b1, s6, k5, k6⟩ := M.aK k2
          obtain ⟨rfl, ya, k7, k8⟩ := kB k5 hys w
          obtain ⟨e1, r1⟩ := ih k k6 ho2 k4 k8 w
          refine ⟨e1.trans e2, ?_⟩
          simp only [rN, Sem.run_bind, k3, k7, r1, Result.andThen_ok]
          cases p
          · simp
          · simp [r2]
      · exact (aD h2).elim
    | _ => rw [hd] at h2; exact (aD h2).elim
end
end Go.Am
set_option linter.unusedSimpArgs false
set_option linter.unusedVariables false
namespace Go.Am
open Go
variable {E : Env}
section
variable {ρ : Ren} {m : Mem} {s s' : St} {w : World} {v : aA}
inductive Cmp (P : Program) (t : TypeId) : Value → Value → Prop
  | bool (a b : Bool) : Cmp P t (.bool a) (.bool b)
  | int (k : IntKind) (a b : Int) : Cmp P t (.int k a) (.int k b)
  | str (a b : ByteArray) : Cmp P t (.string a) (.string b)
  | ptr (a b : Option Addr) : Cmp P t (.pointer a) (.pointer b)
  | fnn : Cmp P t .nilFunc .nilFunc
  | fnf (f : Fn) (a b : Array Value) : Cmp P t .nilFunc (.func f a b)
  | ffn (f : Fn) (a b : Array Value) : Cmp P t (.func f a b) .nilFunc
  | sl (a b : Option Addr) (l c l' c' : Nat) : Cmp P t (.slice a l c) (.slice b l' c')
  | mp (a b : Option Nat) : Cmp P t (.map a) (.map b)
  | agg (a b : Array Value) (h : P.eqGuardType P.depth t = false) : Cmp P t (.agg a) (.agg b)
theorem FR {d : Nat} {t : TypeId} {a b : aA} {c : Bool} (h : (equal E (d + 1) t a b).run s = .ok c s') {x y : Value} (hx : R ρ m a x) (hy : R ρ m b y) : Cmp E.P t x y := by
  obtain ⟨u, s1, h1, h2⟩ := M.aK h
  cases u with
  | bool =>
    obtain ⟨p, s2, h3, h4⟩ := M.aK h2
    obtain ⟨rfl, rfl⟩ := pF h3 hx
    obtain ⟨q, s3, h5, h6⟩ := M.aK h4
    obtain ⟨rfl, rfl⟩ := pF h5 hy
    exact .bool _ _
  | int kk =>
    simp only at h2
    split at h2
    · split at h2
      · rename_i k1 n1 _ k2 n2
        split at h2
        · rename_i hk
          have hk' : k1 = k2 := of_decide_eq_true hk
          subst hk'
          obtain rfl := hx.cY
          obtain rfl := hy.cY
          exact .int _ _ _
        · exact (aD h2).elim
      · exact (aD h2).elim
    · exact (aD h2).elim
  | string =>
    obtain ⟨l, rfl, h3⟩ := kT h2
    obtain ⟨l', rfl, h4⟩ := kT h3
    obtain rfl := hx.gX
    obtain rfl := hy.gX
    exact .str _ _
  | pointer e =>
    obtain ⟨p, s2, h3, h4⟩ := M.aK h2
    obtain ⟨rfl, hp⟩ := oU h3 hx
    obtain ⟨q, s3, h5, h6⟩ := M.aK h4
    obtain ⟨rfl, hq⟩ := oU h5 hy
    rcases hp with ⟨rfl, rfl⟩ | ⟨rfl, ad, rfl⟩ <;> rcases hq with ⟨rfl, rfl⟩ | ⟨rfl, ad', rfl⟩ <;> exact .ptr _ _
  | func a1 b1 c1 =>
    obtain ⟨p, s2, h3, h4⟩ := M.aK h2
    obtain ⟨rfl, hp⟩ := rC h3 hx
    obtain ⟨q, s3, h5, h6⟩ := M.aK h4
    obtain ⟨rfl, hq⟩ := rC h5 hy
    rcases hp with ⟨rfl, rfl⟩ | ⟨rfl, f, pp, qq, rfl⟩
    · rcases hq with ⟨rfl, rfl⟩ | ⟨rfl, f, pp, qq, rfl⟩
      · exact .fnn
      · exact .fnf _ _ _
    · rcases hq with ⟨rfl, rfl⟩ | ⟨rfl, f', pp', qq', rfl⟩
      · exact .ffn _ _ _
      · exact (aD h6).elim
  | slice e =>
    obtain ⟨p, s2, h3, h4⟩ := M.aK h2
    obtain ⟨rfl, hp⟩ := rB h3 hx
    obtain ⟨q, s3, h5, h6⟩ := M.aK h4
    obtain ⟨rfl, hq⟩ := rB h5 hy
    rcases hp with ⟨rfl, rfl⟩ | ⟨rfl, ad, l1, c1, rfl⟩ <;> rcases hq with ⟨rfl, rfl⟩ | ⟨rfl, ad', l2, c2, rfl⟩ <;> exact .sl _ _ _ _ _ _
  | map k1 e1 =>
    obtain ⟨p, s2, h3, h4⟩ := M.aK h2
    obtain ⟨rfl, hp⟩ := oV h3 hx
    obtain ⟨q, s3, h5, h6⟩ := M.aK h4
    obtain ⟨rfl, hq⟩ := oV h5 hy
    rcases hp with ⟨rfl, rfl⟩ | ⟨rfl, r, rfl⟩ <;> rcases hq with ⟨rfl, rfl⟩ | ⟨rfl, r', rfl⟩ <;> exact .mp _ _
  | struct fs =>
    simp only at h2
    split at h2
    · rename_i hq
      obtain ⟨_, hgd⟩ := tT _ _ hq
      obtain ⟨l, rfl, h3⟩ := kE h2
      obtain ⟨l', rfl, h4⟩ := kE h3
      obtain ⟨xs, rfl, hxs⟩ := hx.iF
      obtain ⟨ys, rfl, hys⟩ := hy.iF
      exact .agg _ _ hgd
    · exact (aD h2).elim
  | array n e =>
    simp only at h2
    split at h2
    · rename_i hq
      obtain ⟨_, hgd⟩ := tT _ _ hq
      obtain ⟨l, rfl, h3⟩ := kE h2
      obtain ⟨l', rfl, h4⟩ := kE h3
      obtain ⟨xs, rfl, hxs⟩ := hx.iF
      obtain ⟨ys, rfl, hys⟩ := hy.iF
      exact .agg _ _ hgd
    · exact (aD h2).elim
  | _ => exact (aD h2).elim
theorem Cmp.guard {P : Program} {t : TypeId} {x y : Value} (h : Cmp P t x y) (op : BinOp) (a b : Operand) : (eqGuard op t a b x y).run P w = .ok () w := by
  cases h with
  | agg xs ys hg => exact run_eqGuard_agg w op t a b xs ys hg
  | ptr p q => cases op <;> cases p <;> cases q <;> rfl
  | _ => cases op <;> rfl
theorem FN {P : Program} (op : BinOp) (t : TypeId) (a b : Operand) (k k' : IntKind) (x y : Int) : (eqGuard op t a b (.int k x) (.int k' y)).run P w = .ok () w := by
  cases op <;> rfl
theorem FM {P : Program} (op : BinOp) (t : TypeId) (a b : Operand) (x y : ByteArray) : (eqGuard op t a b (.string x) (.string y)).run P w = .ok () w := by
  cases op <;> rfl
theorem zK {op : BinOp} {t : TypeId} {a b : aA} (h : (aV E op t a b).run s = .ok v s') (ho : bU s') (hr : Rel E.P ρ m s.heap.get w) {x y : Value} (hx : R ρ m a x) (hy : R ρ m b y)
    (hni : ∀ k n, a ≠ .int k n) (hns : ∀ l, a ≠ .str l) (ox oy : Operand) : Out E.P ρ m s w s' v ((do eqGuard op t ox oy x y; Go.binOp op t x y : Sem Value).run E.P w) := by
  have key : ∀ c s1, (bF E t a b).run s = .ok c s1 → bU s1 → fS s s1 ∧ (Op.equal t x y).run E.P w = .ok c w ∧ Cmp E.P t x y := fun c s1 he ho1 => by
    obtain ⟨e, r⟩ := sM 100 9900 he ho1 hx hy w
    exact ⟨e, r, FR he hx hy⟩
  have shape : ∀ x y, Cmp E.P t x y → (∀ k n, x ≠ .int k n) → (∀ l, x ≠ .string l) → Go.binOp .eql t x y = (do pure (.bool (← Op.equal t x y)) : Sem Value) ∧ Go.binOp .neq t x y = (do pure (.bool (!(← Op.equal t x y))) : Sem Value) := by
    intro x y hc h1 h2
    cases hc with
    | int k a b => exact absurd rfl (h1 k a)
    | str a b => exact absurd rfl (h2 a)
    | ptr p q => cases p <;> cases q <;> exact ⟨rfl, rfl⟩
    | _ => exact ⟨rfl, rfl⟩
  have nx : ∀ k n, x ≠ .int k n := by
    rintro k n rfl
    cases hx with
    | int => exact hni _ _ rfl
    | aB =>
      unfold aV at h
      split at h
      · obtain ⟨c, s1, he, _, ho1, _, _⟩ := M.aJ h ho
        obtain ⟨u, s2, h1, h2⟩ := M.aK he
        cases u with
        | struct fs => simp only at h2; split at h2 <;> exact (aD h2).elim
        | array fs n => simp only at h2; split at h2 <;> exact (aD h2).elim
        | _ => exact (aD h2).elim
      · obtain ⟨c, s1, he, _, ho1, _, _⟩ := M.aJ h ho
        obtain ⟨u, s2, h1, h2⟩ := M.aK he
        cases u with
        | struct fs => simp only at h2; split at h2 <;> exact (aD h2).elim
        | array fs n => simp only at h2; split at h2 <;> exact (aD h2).elim
        | _ => exact (aD h2).elim
      · exact (aD h).elim
  have ny : ∀ k, x ≠ .string k := by
    rintro k rfl
    cases hx with
    | str => exact hns _ rfl
    | aB =>
      unfold aV at h
      split at h
      · obtain ⟨c, s1, he, _, ho1, _, _⟩ := M.aJ h ho
        obtain ⟨u, s2, h1, h2⟩ := M.aK he
        cases u with
        | struct fs => simp only at h2; split at h2 <;> exact (aD h2).elim
        | array fs n => simp only at h2; split at h2 <;> exact (aD h2).elim
        | _ => exact (aD h2).elim
      · obtain ⟨c, s1, he, _, ho1, _, _⟩ := M.aJ h ho
        obtain ⟨u, s2, h1, h2⟩ := M.aK he
        cases u with
        | struct fs => simp only at h2; split at h2 <;> exact (aD h2).elim
        | array fs n => simp only at h2; split at h2 <;> exact (aD h2).elim
        | _ => exact (aD h2).elim
      · exact (aD h).elim
  unfold aV at h
  split at h
  · obtain ⟨c, s1, he, h2, ho1, _, _⟩ := M.aJ h ho
    obtain ⟨rfl, rfl⟩ := aC h2
    obtain ⟨e, r, hc⟩ := key c _ he ho1
    simp only [Sem.run_bind, hc.guard, Result.andThen_ok, (shape x y hc nx ny).1, r, Sem.run_pure]
    exact .same hr e (.bool _)
  · obtain ⟨c, s1, he, h2, ho1, _, _⟩ := M.aJ h ho
    obtain ⟨rfl, rfl⟩ := aC h2
    obtain ⟨e, r, hc⟩ := key c _ he ho1
    simp only [Sem.run_bind, hc.guard, Result.andThen_ok, (shape x y hc nx ny).2, r, Sem.run_pure]
    exact .same hr e (.bool _)
  · exact (aD h).elim
theorem G4 {op : BinOp} {t : TypeId} {a b : aA} (h : (binOp E op t a b).run s = .ok v s') (ho : bU s') (hr : Rel E.P ρ m s.heap.get w) {x y : Value} (hx : R ρ m a x) (hy : R ρ m b y) (ox oy : Operand) :
    Out E.P ρ m s w s' v ((do eqGuard op t ox oy x y; Go.binOp op t x y : Sem Value).run E.P w) := by
  unfold binOp at h
  split at h
  · rename_i k n
    obtain rfl := hx.cY
    unfold cQ at h
    split at h
    · rename_i k' n'
      obtain rfl := hy.cY
      simp only [Sem.run_bind, FN, Result.andThen_ok]
      split at h
      · exact A4 h ho hr t
      · split at h
        · rename_i hk
          have hk' : k = k' := of_decide_eq_true hk
          subst hk'
          exact FJ h ho hr t
        · exact (aD h).elim
    · exact (aD h).elim
  · obtain ⟨l, rfl, h2⟩ := kT h
    obtain rfl := hx.gX
    obtain rfl := hy.gX
    simp only [Sem.run_bind, FM, Result.andThen_ok]
    exact EP h2 ho hr t
  · rename_i h1 h2
    exact zK h ho hr hx hy (fun k n e => h1 k n e) (fun l e => h2 l e) ox oy
theorem GF {P : Program} {op : UnOp} {a : aA} (h : (unOp op a).run s = .ok v s') (ho : bU s') (hr : Rel P ρ m s.heap.get w) {x : Value} (hx : R ρ m a x) :
    Out P ρ m s w s' v ((Op.unary op x).run P w) := by
  unfold unOp at h
  split at h
  · split at h
    · obtain ⟨rfl, rfl⟩ := aC h
      obtain rfl := hx.cY
      exact .same hr (.refl _) (.int _ _)
    · exact (aD h).elim
  · split at h
    · obtain ⟨rfl, rfl⟩ := aC h
      obtain rfl := hx.cY
      exact .same hr (.refl _) (.int _ _)
    · exact (aD h).elim
  · split at h
    · obtain ⟨rfl, rfl⟩ := aC h
      obtain rfl := hx.bool_inv
      exact .same hr (.refl _) (.bool _)
    · obtain ⟨rfl, rfl⟩ := aC h
      obtain rfl := hx.oM
      exact .same hr (.refl _) (.gG _)
    · exact (aD h).elim
  · exact (aD h).elim
theorem B4 {P : Program} {i : Nat} {a : aA} (h : (extract a i).run s = .ok v s') (hr : Rel P ρ m s.heap.get w) {x : Value} (hx : R ρ m a x) :
    Out P ρ m s w s' v ((Instr.extract x i).run P w) := by
  unfold extract at h
  split at h
  · rename_i l
    obtain ⟨hg, rfl⟩ := j3 h
    cases hx with
    | tup l c hl hrr =>
      have hi := (List.getElem?_eq_some_iff.1 hg).1
      have hc : c[i]? = some c[i] := Array.getElem?_eq_getElem (by omega)
      simp only [Instr.extract, hc, Sem.run_pure]
      exact .same hr (.refl _) (hrr i v _ hg hc)
  · exact (aD h).elim
theorem I2 {P : Program} {a b : aA} (h : (min2 a b).run s = .ok v s') (hr : Rel P ρ m s.heap.get w) {x y : Value} (hx : R ρ m a x) (hy : R ρ m b y) :
    ∃ z, (Builtin.min2 x y).run P w = .ok z w ∧ R ρ m v z ∧ s' = s := by
  unfold min2 at h
  split at h
  · obtain ⟨q, n, rfl, h2⟩ := mP h
    obtain ⟨rfl, rfl⟩ := aC h2
    obtain rfl := hx.cY
    obtain rfl := hy.cY
    exact ⟨_, rfl, .int _ _, rfl⟩
  · exact (aD h).elim
theorem I4 {P : Program} {a b : aA} (h : (max2 a b).run s = .ok v s') (hr : Rel P ρ m s.heap.get w) {x y : Value} (hx : R ρ m a x) (hy : R ρ m b y) :
    ∃ z, (Builtin.max2 x y).run P w = .ok z w ∧ R ρ m v z ∧ s' = s := by
  unfold max2 at h
  split at h
  · obtain ⟨q, n, rfl, h2⟩ := mP h
    obtain ⟨rfl, rfl⟩ := aC h2
    obtain rfl := hx.cY
    obtain rfl := hy.cY
    exact ⟨_, rfl, .int _ _, rfl⟩
  · exact (aD h).elim
inductive RV (ρ : Ren) (m : Mem) : List aA → List Value → Prop
  | nil : RV ρ m [] []
  | cons {a : aA} {x : Value} {l : List aA} {xs : List Value} (h : R ρ m a x) (t : RV ρ m l xs) : RV ρ m (a :: l) (x :: xs)
theorem uY {P : Program} {f : aA → aA → M aA} {g : Value → Value → Sem Value} (hs : ∀ {s s' : St} {a b v : aA}, (f a b).run s = .ok v s' → Rel P ρ m s.heap.get w → ∀ {x y : Value}, R ρ m a x → R ρ m b y →
      ∃ z, (g x y).run P w = .ok z w ∧ R ρ m v z ∧ s' = s) :
    ∀ {l : List aA} {a v : aA} {s s' : St}, (cT f a l).run s = .ok v s' → Rel P ρ m s.heap.get w → ∀ {x : Value} {xs : List Value}, R ρ m a x → RV ρ m l xs → Out P ρ m s w s' v ((xs.foldlM g x).run P w) := by
  intro l
  induction l with
  | nil =>
    intro a v s s' h hr x xs hx hl
    obtain ⟨rfl, rfl⟩ := aC h
    cases hl
    exact .same hr (.refl _) hx
  | cons b l ih =>
    intro a v s s' h hr x xs hx hl
    cases hl with
    | cons hb hl =>
      obtain ⟨c, s1, h1, h2⟩ := M.aK h
      obtain ⟨z, k1, k2, rfl⟩ := hs h1 hr hx hb
      simp only [List.foldlM_cons, Sem.run_bind, k1, Result.andThen_ok]
      exact ih h2 hr k2 hl
end
end Go.Am
set_option linter.unusedSimpArgs false
set_option linter.unusedVariables false
namespace Go.Am
open Go
variable {E : Env}
section
variable {ρ : Ren} {m : Mem} {s s' : St} {w : World} {v : aA}
theorem zT (n : Int) (h0 : 0 ≤ n) (h1 : n ≤ 9223372036854775807) : IntKind.i64.wrap n = n := by
 rw [IntKind.wrap_i64]; omega
theorem wM {t : TypeId} {a b : aA} (h : (makeSlice E t a b).run s = .ok v s') (ho : bU s') (hr : Rel E.P ρ m s.heap.get w) (hf : eX ρ s s') {x y : Value} (hx : R ρ m a x) (hy : R ρ m b y) :
  Out E.P ρ m s w s' v ((Instr.makeSlice t x y).run E.P w) := by
 obtain ⟨d, s1, h1, h2⟩ := M.aK h
 obtain ⟨⟨i, hi, rfl⟩, rfl⟩ := eY h1
 have hu := hi.dT (w := w)
 cases hd : i.desc with
 | slice e =>
  rw [hd] at h2 hu
  obtain ⟨j, s2, h3, h4⟩ := M.aK h2
  obtain ⟨hj, rfl⟩ := kR h3
  obtain ⟨q1, l, rfl, h5⟩ := mP h4
  obtain ⟨q2, c, rfl, h6⟩ := mP h5
  obtain ⟨_, s3, h7, h8, ho3, _, _⟩ := M.aJ h6 ho
  obtain ⟨hb, e3⟩ := eK h7 ho3
  obtain ⟨b1, b2, b3, b4⟩ := of_decide_eq_true hb
  obtain ⟨id, s4, h9, h10⟩ := M.aK h8
  obtain ⟨rfl, rfl⟩ := aC h10
  obtain rfl := hx.cY
  obtain rfl := hy.cY
  obtain ⟨j', hj', hjs, hjb, z, hjz, hzi⟩ := hj.A7 (w := w)
  have hz : (zeroValue e).run E.P w = .ok z w := by
   obtain ⟨z', hz', hzi'⟩ := hj.kW (w := w)
   have : (zeroValue e).run E.P w = .ok z w := by
    simp only [zeroValue, Sem.run_bind, hj', Result.andThen_ok, hjz]; rfl
   exact this
  have hzc := hj.rZ (ρ := ρ) (m := m) hzi
  have hzs : z.cells.size = j.size := by rw [← hzc.len, hj.zR]
  have hreps := qX hzc c.toNat
  rw [hzs] at hreps
  have hr3 := hr.bS e3
  have hf3 := hf.bS e3
  obtain ⟨j2, hj2, hp⟩ := rD h9 hr3 hf3 hreps
  have wl : IntKind.i64.wrap l = l := zT l b1 (by omega)
  have wc : IntKind.i64.wrap c = c := zT c (by omega) b3
  have c1 : ¬ c < 0 := by omega
  have c2 : ¬ ((j'.bytes : Int) * c > 2 ^ 48) := by rw [hjb]; omega
  have c3 : ¬ l < 0 := by omega
  have c4 : ¬ l > c := by omega
  refine ⟨_, _, _, ?_, hp.after e3, .slx id 0 l.toNat c.toNat j.size _ (by simp [Ren.put]; rfl) (by omega)⟩
  simp only [Instr.makeSlice, Sem.run_bind, hu, Result.andThen_ok, asInt, asIntOf, Sem.run_pure, hj', wl, wc, c1, c2, c3, c4, decide_false, Bool.or_self, Bool.false_eq_true, if_false, hj.dO, run_askRoom, or_self]
  by_cases h0 : c.toNat * j.size = 0
  ·have harr : ((Array.range (c.toNat * j.size)).map ((#[] : Array Value)[· % (#[] : Array Value).size]!)) = ((Array.range (c.toNat * j.size)).map (z.cells[· % j.size]!)) := by rw [h0]; simp
   rw [if_pos h0]
   simp only [Sem.run_bind, Result.andThen_ok, Sem.run_pure]
   rw [harr]
   simp only [kX, Sem.run_bind, Result.andThen_ok, Sem.run_pure]
  ·rw [if_neg h0]
   simp only [Sem.run_bind, Result.andThen_ok, Sem.run_pure, hz, hzs, kX]
 | _ => rw [hd] at h2; exact (aD h2).elim
theorem JI {ts : Array TypeId} {ty t : TypeId} (hts : ts[0]? = some t) {a b : aA} (h : (copy E t a b).run s = .ok v s') (ho : bU s') (hr : Rel E.P ρ m s.heap.get w) {x y : Value} (hx : R ρ m a x) (hy : R ρ m b y) :
  Out E.P ρ m s w s' v ((Builtin.copy_ ts ty #[x, y]).run E.P w) := by
 obtain ⟨d, s1, h1, h2⟩ := M.aK h
 obtain ⟨⟨i, hi, rfl⟩, rfl⟩ := eY h1
 have hu := hi.dT (w := w)
 cases hd : i.desc with
 | slice e =>
  rw [hd] at h2 hu
  obtain ⟨n1, s2, h3, h4⟩ := M.aK h2
  obtain ⟨rfl, k1⟩ := m7 (P := E.P) (w := w) h3 hy
  obtain ⟨n2, s3, h5, h6⟩ := M.aK h4
  obtain ⟨rfl, k2⟩ := m7 (P := E.P) (w := w) h5 hx
  obtain ⟨sz, s4, h7, h8⟩ := M.aK h6
  obtain ⟨⟨j, hj, rfl⟩, rfl⟩ := gB h7
  obtain ⟨nothing, s5, h9, h10, ho5, _, _⟩ := M.aJ h8 ho
  obtain ⟨hq, e5⟩ := oO h9 ho5
  cases nothing with
  | true =>
   have hmin : min n1 n2 = 0 := Nat.eq_of_beq_eq_true hq.symm
   have fin : ∀ (dN : Option Addr) (l c : Nat), x = .slice dN l c → v = .int .i64 0 → s' = s5 → Out E.P ρ m s4 w s' v ((Builtin.copy_ ts ty #[x, y]).run E.P w) := by
    intro dN l c hxe hv hs
    subst hxe; subst hv; subst hs
    have hl : l = n2 := by
     have := k2
     simp only [Builtin.lenOf] at this
     injection this
    subst hl
    have hm0 : Nat.min n1 l = 0 := hmin
    have hfc : (Builtin.firstCells j.size 0 y).run E.P w = .ok #[] w := by
     have sl : ∀ (o : Option Addr) (l c : Nat), (Builtin.firstCells j.size 0 (.slice o l c)).run E.P w = .ok #[] w := fun o l c => by
      cases o with
      | none => rfl
      | some ad => simp only [Builtin.firstCells, Nat.zero_mul]; rfl
     unfold lenOf at h3
     split at h3
     ·cases hy; exact sl _ _ _
     ·cases hy; exact sl _ _ _
     ·cases hy <;> exact sl _ _ _
     ·cases hy <;> exact sl _ _ _
     ·cases hy
      simp [Builtin.firstCells, jC]
     ·exact (aD h3).elim
    have hout : (Builtin.copy_ ts ty #[.slice dN l c, y]).run E.P w = .ok (.int .i64 0) w := by
     cases dN with
     | none => simp only [Builtin.copy_, hts, List.getElem?_toArray, List.getElem?_cons_zero, List.getElem?_cons_succ, Sem.run_bind, hu, Result.andThen_ok, k1, hj.dO, hm0, hfc, Sem.run_pure]; rfl
     | some ad => simp only [Builtin.copy_, hts, List.getElem?_toArray, List.getElem?_cons_zero, List.getElem?_cons_succ, Sem.run_bind, hu, Result.andThen_ok, k1, hj.dO, hm0, hfc, Sem.run_pure]; rfl
    rw [hout]
    exact .same hr e5 (.int _ _)
   simp only at h10
   split at h10
   ·exact (aD h10).elim
   ·rename_i hns
    obtain ⟨hv, hs⟩ := aC h10
    unfold lenOf at h5
    split at h5
    ·cases hx; exact fin _ _ _ rfl hv hs
    ·cases hx; exact fin _ _ _ rfl hv hs
    ·cases hx <;> exact fin _ _ _ rfl hv hs
    ·cases hx <;> exact fin _ _ _ rfl hv hs
    ·exact absurd rfl (hns _)
    ·exact (aD h5).elim
  | false =>
   have hne : ¬ min n1 n2 = 0 := by intro hh; rw [hh] at hq; cases hq
   obtain ⟨cs, s6, h11, h12, ho6, _, _⟩ := M.aJ h10 ho
   have hr5 := hr.bS e5
   obtain ⟨xa, g1, g2, g3, e6⟩ := fF h11 ho6 hr5 hy
   have hr6 := hr5.bS e6
   try simp only at h12
   split at h12
   ·rename_i id off len cap sz
    obtain ⟨hsz, h13⟩ := eH h12
    obtain ⟨_, s7, h14, h15⟩ := M.aK h13
    obtain ⟨rfl, rfl⟩ := aC h15
    have go : ∀ (r : RB) (c : Nat), ρ id = some r → x = .slice (some ⟨r.b, off, none⟩) len c → Out E.P ρ m s4 w s' (.int .i64 (min n1 n2 : Nat)) ((Builtin.copy_ ts ty #[x, y]).run E.P w) := by
     intro r c hρ hxe
     subst hxe
     have hl : len = n2 := by
      have := k2
      simp only [Builtin.lenOf] at this
      injection this
     subst hl
     obtain ⟨ad, w', q1, q2, q3⟩ := iG h14 ho hr6 (.ptr id off r hρ) (xs := xa.toList) (by simpa using g2.len) (fun j p q hp hq => g2.at_ j p q hp (by simpa using hq))
     injection q1 with q1
     injection q1 with q1
     subst q1
     have hm0 : Nat.min n1 len = min n1 len := rfl
     refine ⟨_, w', ρ, ?_, q3.after (e5.trans e6), .int _ _⟩
     simp only [Builtin.copy_, hts, List.getElem?_toArray, List.getElem?_cons_zero, List.getElem?_cons_succ, Sem.run_bind, hu, Result.andThen_ok, k1, hj.dO, hm0, g1, q2, Sem.run_pure]; rfl
    cases hx with
    | slx _ _ _ c _ r hρ hl => exact go r c hρ rfl
    | slw _ _ _ c _ r hρ hl hs hc => exact go r c hρ rfl
    | sl0 _ _ _ _ ad hc hn' =>
     have : n2 = 0 := by
      have := k2
      simp only [Builtin.lenOf] at this
      injection this with this
      exact this.symm
     omega
   ·exact (aD h12).elim
 | _ => rw [hd] at h2; exact (aD h2).elim
theorem l7 {P : Program} {b : Blk} {id : Nat} (h : (qC b).run s = .ok id s') (hr : Rel P ρ m s.heap.get w) (hf : eX ρ s s') (o : Obj) (n sz : Nat)
  (hb : ∀ ρ', gU ρ ρ' → BR P ρ' m ⟨w.heap.size, n, sz⟩ b o) : id = s.next ∧ eW P ρ m s w (ρ.put id ⟨w.heap.size, n, sz⟩) m s' (w.alloc o) := by
 obtain ⟨h1, h2, h3⟩ := yS h
 have hρ : ρ id = none := hf id ⟨by omega, by omega⟩
 refine ⟨h1, ⟨gU.put hρ, fun j hj => ?_, fun _ _ h => h, hr.new hρ (hb _ (gU.put hρ)) h3, .alloc _ _, by omega⟩⟩
 unfold Ren.put at hj
 by_cases e : j = id
 ·exact .inr ⟨by omega, by omega⟩
 ·simp only [e, if_false] at hj
  exact .inl hj
theorem gL {P : Program} {w : World} {b : Nat} {o o' : Obj} (h : w.heap[b]? = some o) (hc : ∀ c t f, o ≠ .cells c t f) : (setObj b o').run P w = .ok () (World.upd w b o') := by
 cases o with
 | cells c t f => exact absurd rfl (hc c t f)
 | _ => simp only [setObj, Sem.run, h]; simp [World.upd, Array.set!]
theorem hM {P : Program} {w : World} {b : Nat} {o : Obj} (h : w.heap[b]? = some o) (hc : ∀ c t f, o ≠ .cells c t f) : (getObj b).run P w = .ok o w := by
 cases o with
 | cells c t f => exact absurd rfl (hc c t f)
 | _ => simp only [getObj, Sem.run, h]
theorem EY {t : TypeId} {a : aA} (h : (range E t a).run s = .ok v s') (ho : bU s') (hr : Rel E.P ρ m s.heap.get w) (hf : eX ρ s s') {x : Value} (hx : R ρ m a x) :
  Out E.P ρ m s w s' v ((Instr.range t x).run E.P w) := by
 obtain ⟨d, s1, h1, h2⟩ := M.aK h
 obtain ⟨⟨i, hi, rfl⟩, rfl⟩ := eY h1
 have hu := hi.dT (w := w)
 cases hd : i.desc with
 | string =>
  rw [hd] at h2 hu
  obtain ⟨l, rfl, h3⟩ := kT h2
  obtain rfl := hx.gX
  obtain ⟨id, s2, h4, h5⟩ := M.aK h3
  obtain ⟨rfl, rfl⟩ := aC h5
  obtain ⟨_, hp⟩ := l7 h4 hr hf (.stringIter ⟨⟨l⟩⟩ 0) 0 0 (fun _ _ => .pJ _ l 0)
  refine ⟨_, _, _, ?_, hp, .ptr id 0 ⟨w.heap.size, 0, 0⟩ (by simp [Ren.put])⟩
  simp only [Instr.range, Sem.run_bind, hu, Result.andThen_ok, Sem.run_pure, run_newObj_alloc]
 | map kt et =>
  rw [hd] at h2 hu
  simp only at h2
  split at h2
  ·rename_i id
   obtain ⟨b, s2, h3, h4, ho2, _, _⟩ := M.aJ h2 ho
   obtain ⟨hg, e2⟩ := eC h3
   split at h4
   ·rename_i es ck
    obtain ⟨it, s3, h5, h6⟩ := M.aK h4
    obtain ⟨rfl, rfl⟩ := aC h6
    cases hx with
    | map _ r hρ =>
     obtain ⟨rb, o, q1, q2, q3, q4⟩ := hr.dJ id _ hg
     rw [hρ] at q1
     injection q1 with q1
     subst q1
     cases q3 with
     | map _ _ arr hl hra =>
      have hgo : (getObj r.b).run E.P w = .ok (.map arr ck) w := hM q2 (fun _ _ _ h => by cases h)
      obtain ⟨_, hp⟩ := l7 h5 (hr.bS e2) (hf.bS e2) (.mapIter (some r.b) ck #[] ck) 0 0 (fun ρ' hle => .sU _ id ck [] ck r (hle id r hρ))
      refine ⟨_, _, _, ?_, hp.after e2, .ptr it 0 ⟨w.heap.size, 0, 0⟩ (by simp [Ren.put])⟩
      simp only [Instr.range, Sem.run_bind, hu, hgo, Result.andThen_ok, Sem.run_pure, run_newObj_alloc]
   ·exact (aD h4).elim
  ·exact (aD h2).elim
 | _ => rw [hd] at h2; exact (aD h2).elim
theorem HY {P : Program} {ty : TypeId} {a : aA} (h : (next a).run s = .ok v s') (ho : bU s') (hr : Rel P ρ m s.heap.get w) {x : Value} (hx : R ρ m a x) :
  Out P ρ m s w s' v ((Instr.next x true ty).run P w) := by
 unfold next at h
 split at h
 ·rename_i id off
  split at h
  ·rename_i h0
   obtain rfl := Nat.eq_of_beq_eq_true h0
   obtain ⟨b, s1, h1, h2, ho1, _, _⟩ := M.aJ h ho
   obtain ⟨hg, e1⟩ := eC h1
   unfold ND at h2
   split at h2
   ·rename_i l pos
    obtain ⟨more, s2, h3, h4, ho2, _, _⟩ := M.aJ h2 ho
    obtain ⟨hq, e2⟩ := oO h3 ho2
    cases hx with
    | ptr _ _ r hρ =>
     obtain ⟨rb, o, q1, q2, q3, q4⟩ := hr.dJ id _ hg
     rw [hρ] at q1
     injection q1 with q1
     subst q1
     cases q3 with
     | pJ _ _ =>
      have hgo : (getObj r.b).run P w = .ok (.stringIter ⟨⟨l⟩⟩ pos) w := hM q2 (fun _ _ _ h => by cases h)
      have hsz : (⟨⟨l⟩⟩ : ByteArray).size = l.length := rfl
      cases more with
      | true =>
       have hlt : pos < l.length := Nat.le_of_ble_eq_true hq.symm
       obtain ⟨_, s3, h5, h6⟩ := M.aK h4
       obtain ⟨rfl, rfl⟩ := aC h6
       obtain ⟨_, hn, hset⟩ := nL h5
       have es := e1.trans e2
       refine ⟨.tuple #[.bool true, goInt pos, .int .i32 (Utf8.decode ⟨⟨l⟩⟩ pos).1], World.upd w r.b (.stringIter ⟨⟨l⟩⟩ (pos + (Utf8.decode ⟨⟨l⟩⟩ pos).2)), ρ, ?_, ⟨.refl ρ, fun _ h => .inl h, fun _ _ h => h,
        hr.upd hg hρ (.pJ r l _) (fun j => by rw [hset j, es.heap]), World.pR _ _ _, by rw [hn, es.next]; exact Nat.le_refl _⟩, ?_⟩
       ·simp only [Instr.next, Sem.run_bind, hgo, Result.andThen_ok, hsz, hlt, if_true, gL q2 (fun _ _ _ h => by cases h), Sem.run_pure]
       ·refine .tup _ _ rfl (fun i v x hv hx => ?_)
        rcases i with _ | _ | _ | i
        ·simp at hv hx; subst hv; subst hx; exact .gG _
        ·simp at hv hx; subst hv; subst hx; exact .int _ _
        ·simp at hv hx; subst hv; subst hx; exact .int _ _
        ·simp at hv
      | false =>
       have hlt : ¬ pos < l.length := fun hh => by
        have : pos.blt l.length = true := Nat.ble_eq_true_of_le hh
        rw [this] at hq; cases hq
       obtain ⟨rfl, rfl⟩ := aC h4
       refine ⟨.tuple #[.bool false], w, ρ, ?_, .bS hr (e1.trans e2), ?_⟩
       ·simp only [Instr.next, Sem.run_bind, hgo, Result.andThen_ok, hsz, hlt, if_false, Sem.run_pure]
       ·refine .tup _ _ rfl (fun i v x hv hx => ?_)
        rcases i with _ | i
        ·simp at hv hx; subst hv; subst hx; exact .gG _
        ·simp at hv
   ·exact (aD h2).elim
  ·exact (aD h).elim
 ·exact (aD h).elim
end
end Go.Am
set_option linter.unusedSimpArgs false
set_option linter.unusedVariables false
namespace Go.Am
open Go
variable {E : Env}
section
variable {ρ : Ren} {m : Mem} {s s' : St} {w : World} {v : aA}
theorem E4 {d : TypeDesc} (h : AP d = true) : d = .int .u8 := by
 unfold AP at h
 split at h
 ·rfl
 ·cases h
theorem FH {a : aA} (h : oC a = true) : ∃ n, a = .int .u8 n := by
 unfold oC at h
 split at h
 ·exact ⟨_, rfl⟩
 ·cases h
theorem BH {cs : List aA} (h : cs.all oC = true) {xs : Array Value} (hx : RL ρ m cs xs) : ∃ ns : List Int, xs = (ns.map (Value.int .u8)).toArray ∧ cs.map j4 = ns.map fun n => UInt8.ofNat n.toNat := by
 obtain ⟨xl⟩ := xs
 have hl := hx.len
 have ha := hx.at_
 clear hx
 simp only [List.size_toArray] at hl
 revert xl
 induction cs with
 | nil =>
  intro xl _ hl
  cases xl with
  | nil => exact ⟨[], rfl, rfl⟩
  | cons => simp at hl
 | cons c cs ih =>
  intro xl ha hl
  cases xl with
  | nil => simp at hl
  | cons x xl =>
   simp only [List.all_cons, Bool.and_eq_true] at h
   obtain ⟨n, rfl⟩ := FH h.1
   obtain ⟨ns, h1, h2⟩ := ih h.2 xl (fun i v x hv hx => ha (i + 1) v x (by simpa using hv) (by simpa using hx)) (by simpa using hl)
   have := (ha 0 (.int .u8 n) x (by simp) (by simp)).cY
   subst this
   refine ⟨n :: ns, ?_, by simp [j4, h2]⟩
   have h1' : xl = ns.map (Value.int .u8) := by simpa using h1
   rw [h1', List.map_cons]
theorem BC {src dst e : TypeId} {a : aA} (hs : E.P.underlying src = some (.slice e)) (hd : E.P.underlying dst = some .string) (h : (lS E e a).run s = .ok v s') (ho : bU s') (hr : Rel E.P ρ m s.heap.get w)
  (hns : ∀ l, a ≠ .str l) {x : Value} (hx : R ρ m a x) : Out E.P ρ m s w s' v ((Go.convert src dst x).run E.P w) := by
 obtain ⟨u, s1, h1, h2⟩ := M.aK h
 obtain ⟨⟨i, hi, rfl⟩, rfl⟩ := eY h1
 split at h2
 ·rename_i hu
  have he : E.P.underlying e = some (.int .u8) := by rw [hi.und, E4 hu]
  obtain ⟨n, s2, h3, h4⟩ := M.aK h2
  obtain ⟨rfl, k1⟩ := m7 (P := E.P) (w := w) h3 hx
  obtain ⟨cs, s3, h5, h6, ho3, _, _⟩ := M.aJ h4 ho
  obtain ⟨xs, g1, g2, g3, e3⟩ := fF h5 ho3 hr hx
  obtain ⟨_, s4, h7, h8, ho4, _, _⟩ := M.aJ h6 ho
  obtain ⟨hall, e4⟩ := eK h7 ho4
  obtain ⟨rfl, rfl⟩ := aC h8
  obtain ⟨ns, b1, b2⟩ := BH hall g2
  have go : ∀ (dN : Option Addr) (l c : Nat), x = .slice dN l c → Out E.P ρ m s2 w s' (.str (cs.map j4)) ((Go.convert src dst x).run E.P w) := by
   rintro dN l c rfl
   have hl : l = n := by
    have := k1
    simp only [Builtin.lenOf] at this
    injection this
   subst hl
   have fin : (Conv.bytesToString (.slice dN l c)).run E.P w = .ok (.string ⟨⟨cs.map j4⟩⟩) w := by
    cases dN with
    | none =>
     have : xs = #[] := by
      have := g1
      simp only [Builtin.firstCells] at this
      injection this with this
      exact this.symm
     have hc : cs = [] := by
      have := g2.len
      rw [‹xs = #[]›] at this
      simpa using this
     subst hc
     rfl
    | some ad =>
     have : (loadCells ad l).run E.P w = .ok (ns.map (Value.int .u8)).toArray w := by
      have := g1
      simp only [Builtin.firstCells, Nat.mul_one] at this
      rw [this, b1]
     rw [run_bytesToString w ad l c ns this, foldl_push_bytes, b2]
     have : ((ByteArray.empty).data ++ (ns.map fun n => UInt8.ofNat n.toNat).toArray) = ⟨ns.map fun n => UInt8.ofNat n.toNat⟩ := by
      have he0 : ByteArray.empty.data = #[] := rfl
      rw [he0]; simp
     rw [this]
   rw [run_convert_bytes_string w src dst e dN l c hs he hd, fin]
   exact .same hr (e3.trans e4) (.str _)
  unfold lenOf at h3
  split at h3
  ·cases hx; exact go _ _ _ rfl
  ·cases hx; exact go _ _ _ rfl
  ·cases hx <;> exact go _ _ _ rfl
  ·cases hx <;> exact go _ _ _ rfl
  ·exact absurd rfl (hns _)
  ·exact (aD h3).elim
 ·exact (aD h2).elim
theorem CW {w : World} {b n : Nat} {c : Array Value} {t : TypeId} {fr : Nat × Nat} (h : w.heap[b]? = some (.cells c t fr)) :
  ∃ fr', (fr' = (n, n + 1) ∨ fr' = (min fr.1 n, max fr.2 (n + 1)) ∧ fr.1 ≠ fr.2) ∧ w.freeze ⟨b, n, none⟩ 1 = World.upd w b (.cells c t fr') := by
 obtain ⟨hb, he⟩ := Array.getElem?_eq_some_iff.1 h
 refine ⟨if fr.1 == fr.2 then (n, n + 1) else (min fr.1 n, max fr.2 (n + 1)), ?_, ?_⟩
 ·by_cases hf : fr.1 = fr.2
  ·simp [hf]
  ·simp [hf]
 ·unfold World.freeze World.upd
  rw [if_neg (by decide)]
  congr 1
  apply Array.ext_getElem?
  intro i
  rw [Array.getElem?_modify, Array.getElem?_setIfInBounds]
  by_cases e : b = i
  ·subst e
   obtain ⟨lo, hi⟩ := fr
   simp [hb, he]
  ·simp [e]
theorem BB {src dst : TypeId} {a : aA} (h : (convert E src dst a).run s = .ok v s') (ho : bU s') (hr : Rel E.P ρ m s.heap.get w) (hf : eX ρ s s') {x : Value} (hx : R ρ m a x) :
  Out E.P ρ m s w s' v ((Go.convert src dst x).run E.P w) := by
 obtain ⟨ds, s1, h1, h2⟩ := M.aK h
 obtain ⟨⟨i, hi, rfl⟩, rfl⟩ := eY h1
 obtain ⟨dd, s2, h3, h4⟩ := M.aK h2
 obtain ⟨⟨j, hj, rfl⟩, rfl⟩ := eY h3
 have hu := hi.dT (w := w)
 have hv := hj.dT (w := w)
 cases hd : j.desc with
 | int k =>
  rw [hd] at h4 hv
  obtain ⟨q, n, rfl, h5⟩ := mP h4
  obtain ⟨rfl, rfl⟩ := aC h5
  obtain rfl := hx.cY
  simp only [Go.convert, Sem.run_bind, hu, hv, Result.andThen_ok, Conv.intToInt, Sem.run_pure]
  exact .same hr (.refl _) (.int _ _)
 | string =>
  rw [hd] at h4 hv
  cases hs : i.desc with
  | string =>
   rw [hs] at h4 hu
   obtain ⟨l, rfl, h5⟩ := kT h4
   obtain ⟨rfl, rfl⟩ := aC h5
   obtain rfl := hx.gX
   simp only [Go.convert, Sem.run_bind, hu, hv, Result.andThen_ok, Sem.run_pure]
   exact .same hr (.refl _) (.str _)
  | slice e =>
   rw [hs] at h4 hu
   simp only at h4
   split at h4
   ·exact (aD h4).elim
   ·rename_i hns
    exact BC (by rw [hi.und, hs]) (by rw [hj.und, hd]) h4 ho hr (fun l e => hns l e) hx
  | _ => rw [hs] at h4; exact (aD h4).elim
 | slice e =>
  rw [hd] at h4 hv
  obtain ⟨u, s3, h5, h6⟩ := M.aK h4
  obtain ⟨⟨i8, hi8, rfl⟩, rfl⟩ := eY h5
  split at h6
  ·rename_i hu8
   have he : E.P.underlying e = some (.int .u8) := by rw [hi8.und, E4 hu8]
   have hrune : (underlying e).run E.P w = .ok (.int .u8) w := run_underlying he w
   cases hs : i.desc with
   | string =>
    rw [hs] at h6 hu
    obtain ⟨l, rfl, h7⟩ := kT h6
    obtain ⟨n, s4, h8, h9⟩ := M.aK h7
    obtain ⟨⟨ie, hie, rfl⟩, rfl⟩ := gB h8
    obtain ⟨h1s, h10⟩ := eH h9
    obtain ⟨id, s5, h11, h12⟩ := M.aK h10
    obtain ⟨rfl, rfl⟩ := aC h12
    obtain ⟨i2, s6, h13, h14⟩ := M.aK h11
    obtain ⟨hi2, rfl⟩ := kR h13
    obtain rfl := hx.gX
    have hszl : (⟨⟨l⟩⟩ : ByteArray).size = l.length := rfl
    have hcap : l.length ≤ grownCap w l.length 0 e := by simp only [grownCap, Question.cut]; omega
    have hrow := run_bytes_of_string (P := E.P) w src dst e ⟨⟨l⟩⟩ (by rw [hi.und, hs]) (by rw [hj.und, hd]) he
    rw [hszl] at hrow
    have hrs : (bytesRow ⟨⟨l⟩⟩ (grownCap w l.length 0 e)).size = grownCap w l.length 0 e := by
     simp only [bytesRow, Array.size_append, Array.size_map, Array.size_replicate, hszl]
     show l.length + _ = _
     omega
    rw [hrs] at hrow
    have ei : i2.size = 1 := by
     have h1 := hi2.kO
     rw [hie.kO, h1s] at h1
     injection h1 with h1
     exact h1.symm
    obtain ⟨_, hp⟩ := l7 (w := { w with drawn := w.drawn + 1 }) h14 hr.drew hf (.cells (bytesRow ⟨⟨l⟩⟩ (grownCap w l.length 0 e)) e (grownCap w l.length 0 e, grownCap w l.length 0 e + 1)) (grownCap w l.length 0 e) 1 (fun ρ' hle =>
     .row _ (.l (gP l)) e _ _ (by rw [hi2.kO, ei]) hrs (by rw [hrs]; simpa [bH.size, gO] using hcap) (fun q y hq hy => by
      simp only [bH.size, gO] at hq
      rw [bytesRow_at _ _ _ (show q < l.length from hq)] at hy
      injection hy with hy
      subst hy
      simp only [bH.at, gJ, lY, List.getElem?_eq_getElem hq, Option.map_some, Option.getD_some]
      exact .int _ _) (.inr ⟨by rw [hrs]; exact Nat.le_refl _, he⟩))
    refine ⟨_, _, _, hrow, hp.drew, .slw id 0 l.length _ 1 ⟨w.heap.size, grownCap w l.length 0 e, 1⟩ (by simp [Ren.put]) hcap rfl (by simp)⟩
   | slice e' =>
    rw [hs] at h6 hu
    simp only at h6
    split at h6
    ·rename_i hsd
     obtain rfl := Nat.eq_of_beq_eq_true hsd
     split at h6
     ·rename_i id off len cap sz
      obtain ⟨b, s4, h7, h8, ho4, _, _⟩ := M.aJ h6 ho
      obtain ⟨hg, e4⟩ := eC h7
      obtain ⟨c, t, rfl, h9⟩ := iU h8
      obtain ⟨_, s5, h10, h11, ho5, _, _⟩ := M.aJ h9 ho
      obtain ⟨hb, e5⟩ := eK h10 ho5
      rw [Bool.and_eq_true] at hb
      obtain ⟨hb, hte⟩ := hb
      obtain rfl := Nat.eq_of_beq_eq_true hte
      obtain ⟨_, s6, h12, h13⟩ := M.aK h11
      obtain ⟨rfl, rfl⟩ := aC h13
      obtain ⟨b', s7, h14, h15⟩ := M.aK h12
      obtain ⟨hg7, e7⟩ := eC h14
      have hb' : b' = .row c t := by
       rw [e5.heap, e4.heap] at hg7
       rw [hg] at hg7
       injection hg7 with hg7
       exact hg7.symm
      subst hb'
      obtain ⟨_, hn, hset⟩ := nL h15
      have es := (e4.trans e5).trans e7
      have hee : e' = t := by
       have h1 : E.P.underlying src = some (.slice e') := by rw [hi.und, hs]
       rw [hj.und, hd] at h1
       injection h1 with h1
       injection h1 with h1
       exact h1.symm
      have hbeq : (src == src) = true := by simp
      have go : ∀ (r : RB) (cc : Nat), ρ id = some r → x = .slice (some ⟨r.b, off, none⟩) len cc → R ρ m (.sl id off len cap sz) x → Out E.P ρ m s3 w s' (.sl id off len cap sz) ((Go.convert src src x).run E.P w) := by
       rintro r cc hρ rfl hxx
       obtain ⟨arr, fr, q1, q2, q3, q4, q5, q6, q7⟩ := hr.row hg hρ
       obtain ⟨fr', f1, f2⟩ := CW (n := arr.size) q1
       have hsh : w.shape? r.b = some (t, arr.size) := by unfold World.shape?; rw [q1]
       refine ⟨_, _, ρ, ?_, ⟨.refl ρ, fun _ h => .inl h, fun _ _ h => h, hr.upd hg hρ (.row r c t arr fr' q2 q3 q4 q5 ?_) (fun jj => by rw [hset jj, es.heap]), World.pR _ _ _, by rw [hn, es.next]; exact Nat.le_refl _⟩, hxx⟩
       ·simp only [Go.convert, Sem.run_bind, hv, Result.andThen_ok, hbeq, hrune, markStringish, shape, freeze, Sem.run, hsh, Sem.bind]
        rw [f2]
        rfl
       ·rcases f1 with rfl | ⟨rfl, hne⟩
        ·exact .inr ⟨Nat.le_refl _, he⟩
        ·rcases q6 with q6 | q6
         ·exact absurd q6 hne
         ·exact .inr ⟨by have := q6.1; simp only; omega, he⟩
      cases hx with
      | slx _ _ _ cc _ r hρ hl => exact go r cc hρ rfl (.slx _ _ _ cc _ r hρ hl)
      | slw _ _ _ cc _ r hρ hl hs2 hc => exact go r cc hρ rfl (.slw _ _ _ cc _ r hρ hl hs2 hc)
      | sl0 _ _ _ _ ad hc hn' =>
       exfalso
       cases cap with
       | some k =>
        have := hc k rfl
        subst this
        cases hb
       | none =>
        obtain ⟨r, hρ, hro⟩ := hn' rfl
        obtain ⟨arr, fr, q1, q2, q3, q4, _⟩ := hr.row hg hρ
        have hlt : off < c.size := Nat.le_of_ble_eq_true hb
        omega
     ·exact (aD h6).elim
    ·exact (aD h6).elim
   | _ => rw [hs] at h6; exact (aD h6).elim
  ·exact (aD h6).elim
 | _ => rw [hd] at h4; exact (aD h4).elim
end
end Go.Am
set_option linter.unusedSimpArgs false
set_option linter.unusedVariables false
namespace Go.Am
open Go
variable {E : Env}
section
variable {ρ : Ren} {m : Mem} {s s' : St} {w : World} {v : aA}
theorem rG : ∀ (d k : Nat) {t : TypeId} {a : aA} {u : Unit} {s s' : St}, (lA E d t a).run s = .ok u s' → bU s' → ∀ {x : Value}, R ρ m a x → ∀ (w : World) (em : Bool),
    fS s s' ∧ (Instr.checkKey em (d + k) t x).run E.P w = .ok () w := by
  intro d
  induction d with
  | zero => intro k t a u s s' h; exact (aD h).elim
  | succ d ih =>
    intro k t a u s s' h ho x hx w em
    obtain ⟨dd, s1, h1, h2⟩ := M.aK h
    obtain ⟨⟨i, hi, rfl⟩, rfl⟩ := eY h1
    have hu := hi.dT (w := w)
    have ek : d + 1 + k = (d + k) + 1 := by omega
    rw [ek]
    cases hd : i.desc with
    | bool =>
      rw [hd] at h2 hu
      obtain ⟨_, rfl⟩ := aC h2
      exact ⟨.refl _, by simp only [Instr.checkKey, Sem.run_bind, hu, Result.andThen_ok, Sem.run_pure]⟩
    | int kk =>
      rw [hd] at h2 hu
      obtain ⟨_, rfl⟩ := aC h2
      exact ⟨.refl _, by simp only [Instr.checkKey, Sem.run_bind, hu, Result.andThen_ok, Sem.run_pure]⟩
    | string =>
      rw [hd] at h2 hu
      obtain ⟨_, rfl⟩ := aC h2
      exact ⟨.refl _, by simp only [Instr.checkKey, Sem.run_bind, hu, Result.andThen_ok, Sem.run_pure]⟩
    | struct fs =>
      rw [hd] at h2 hu
      obtain ⟨l, rfl, h3⟩ := kE h2
      obtain ⟨xs, rfl, hxs⟩ := hx.iF
      simp only [Instr.checkKey, Sem.run_bind, hu, Result.andThen_ok]
      rw [← Array.forIn_toList]
      clear h1 h2 h hx hu hi hd
      revert s1 s'
      induction fs.toList with
      | nil =>
        intro s' ho s1 h
        obtain ⟨_, rfl⟩ := aC h
        exact ⟨.refl _, by simp⟩
      | cons f fl ihl =>
        intro s' ho s1 h
        obtain ⟨_, s2, h5, h6, ho2, _, _⟩ := M.aJ h ho
        obtain ⟨e2, r2⟩ := ihl ho _ h6
        simp only at h5
        split at h5
        · rename_i hn
          have hn' : f.name = "_" := of_decide_eq_true hn
          obtain ⟨_, rfl⟩ := aC h5
          refine ⟨e2, ?_⟩
          simp only [List.forIn_cons, hn', ne_eq, not_true_eq_false, if_false, Sem.run_bind, Sem.run_pure, Result.andThen_ok]
          simpa only [ne_eq, Sem.run_pure] using r2
        · rename_i hn
          have hn' : ¬ f.name = "_" := of_decide_eq_false hn
          obtain ⟨a1, s4, k1, k2⟩ := M.aK h5
          obtain ⟨rfl, xa, k3, k4⟩ := kB k1 hxs w
          obtain ⟨e1, r1⟩ := ih k k2 ho2 k4 w em
          refine ⟨e1.trans e2, ?_⟩
          simp only [List.forIn_cons, ne_eq, hn', not_false_eq_true, if_true, Sem.run_bind, k3, r1, Sem.run_pure, Result.andThen_ok]
          simpa only [ne_eq, Sem.run_pure] using r2
    | array n e =>
      rw [hd] at h2 hu
      obtain ⟨l, rfl, h3⟩ := kE h2
      obtain ⟨xs, rfl, hxs⟩ := hx.iF
      obtain ⟨z, s2, h5, h6⟩ := M.aK h3
      obtain ⟨⟨j, hj, rfl⟩, rfl⟩ := gB h5
      simp only [Instr.checkKey, Sem.run_bind, hu, Result.andThen_ok]
      rw [Std.Legacy.Range.forIn_eq_forIn_range']
      simp only [Std.Legacy.Range.size, Nat.sub_zero, Nat.add_sub_cancel, Nat.div_one, ← List.range_eq_range']
      clear h1 h2 h3 h5 h hx hu hi hd
      revert s2 s'
      induction List.range n with
      | nil =>
        intro s' ho s2 h
        obtain ⟨_, rfl⟩ := aC h
        exact ⟨.refl _, by simp⟩
      | cons q ql ihl =>
        intro s' ho s2 h
        obtain ⟨_, s3, h5, h6, ho2, _, _⟩ := M.aJ h ho
        obtain ⟨e2, r2⟩ := ihl ho _ h6
        obtain ⟨a1, s4, k1, k2⟩ := M.aK h5
        obtain ⟨rfl, xa, k3, k4⟩ := kB k1 hxs w
        obtain ⟨e1, r1⟩ := ih k k2 ho2 k4 w em
        refine ⟨e1.trans e2, ?_⟩
        have hz : ∀ w : World, (Go.sizeOf e).run E.P w = .ok j.size w := fun w => hj.dO
        simp only [List.forIn_cons, Sem.run_bind, hz, k3, r1, Sem.run_pure, Result.andThen_ok]
        simpa only [Sem.run_pure] using r2
    | _ => rw [hd] at h2; exact (aD h2).elim
inductive MEs (ρ : Ren) (m : Mem) : List Ent → List MapEntry → Prop
  | nil : MEs ρ m [] []
  | cons {e : Ent} {x : MapEntry} {es : List Ent} {l : List MapEntry} (h : ME ρ m e x) (t : MEs ρ m es l) : MEs ρ m (e :: es) (x :: l)
theorem MEs.of : ∀ {es : List Ent} {l : List MapEntry}, es.length = l.length → (∀ (i : Nat) e x, es[i]? = some e → l[i]? = some x → ME ρ m e x) → MEs ρ m es l
  | [], [], _, _ => .nil
  | e :: es, x :: l, hl, h => .cons (h 0 e x rfl rfl) (MEs.of (by simpa using hl) fun i a b ha hb => h (i + 1) a b (by simpa using ha) (by simpa using hb))
  | [], _ :: _, hl, _ => by simp at hl
  | _ :: _, [], hl, _ => by simp at hl
theorem MEs.len {es : List Ent} {l : List MapEntry} (h : MEs ρ m es l) : es.length = l.length := by
  induction h with
  | nil => rfl
  | cons _ _ ih => simp [ih]
theorem MEs.get {es : List Ent} {l : List MapEntry} (h : MEs ρ m es l) : ∀ (i : Nat) e x, es[i]? = some e → l[i]? = some x → ME ρ m e x := by
  induction h with
  | nil => intro i e x he; simp at he
  | cons h t ih =>
    intro i e x he hx
    cases i with
    | zero => simp at he hx; subst he; subst hx; exact h
    | succ i => exact ih i e x (by simpa using he) (by simpa using hx)
theorem MEs.app {a b : List Ent} {x y : List MapEntry} (h : MEs ρ m a x) (h' : MEs ρ m b y) : MEs ρ m (a ++ b) (x ++ y) := by
  induction h with
  | nil => exact h'
  | cons h t ih => exact .cons h ih
def sQ (es : List Ent) (l : List MapEntry) (i : Nat) (r : Option (Nat × aA)) (r' : Option (Nat × Value)) : Prop :=
  (r = none ∧ r' = none) ∨ ∃ (p : Nat) (e : Ent) (x : MapEntry), es[p]? = some e ∧ l[p]? = some x ∧ r = some (i + p, e.2.1) ∧ r' = some (i + p, x.val)
theorem sQ.cons {e : Ent} {x : MapEntry} {es : List Ent} {l : List MapEntry} {i : Nat} {r : Option (Nat × aA)} {r' : Option (Nat × Value)} (h : sQ es l (i + 1) r r') : sQ (e :: es) (x :: l) i r r' := by
  rcases h with h | ⟨p, e', x', h1, h2, h3, h4⟩
  · exact .inl h
  · refine .inr ⟨p + 1, e', x', by simpa using h1, by simpa using h2, ?_, ?_⟩
    · rw [h3, Nat.add_assoc, Nat.add_comm 1 p]
    · rw [h4, Nat.add_assoc, Nat.add_comm 1 p]
theorem uZ {kt : TypeId} {k : aA} {xk : Value} (hk : R ρ m k xk) (w : World) {es : List Ent} {l : List MapEntry} (he : MEs ρ m es l) : ∀ {i : Nat} {r : Option (Nat × aA)} {s s' : St}, (mD E kt k es i).run s = .ok r s' → bU s' →
    fS s s' ∧ ∃ r', (Instr.findAsking kt xk l i).run E.P w = .ok r' w ∧ sQ es l i r r' := by
  induction he with
  | nil =>
    intro i r s s' h ho
    obtain ⟨rfl, rfl⟩ := aC h
    exact ⟨.refl _, none, rfl, .inl ⟨rfl, rfl⟩⟩
  | cons hx t ih =>
    rename_i e x es l
    intro i r s s' h ho
    obtain ⟨b, s1, h1, h2, ho1, _, _⟩ := M.aJ h ho
    obtain ⟨e1, r1⟩ := sM 100 9900 h1 ho1 hk hx.key w
    have r1' : (Op.equal kt xk x.key).run E.P w = .ok b w := r1
    cases b with
    | true =>
      obtain ⟨rfl, rfl⟩ := aC h2
      refine ⟨e1, _, ?_, .inr ⟨0, e, x, rfl, rfl, rfl, rfl⟩⟩
      simp only [Instr.findAsking, Sem.run_bind, r1', Result.andThen_ok, if_true, Sem.run_pure, Nat.add_zero]
    | false =>
      obtain ⟨e2, r', k1, k2⟩ := ih h2 ho
      refine ⟨e1.trans e2, r', ?_, k2.cons⟩
      simp only [Instr.findAsking, Sem.run_bind, r1', Result.andThen_ok, Bool.false_eq_true, if_false, k1]
theorem wJ {P : Program} {kt : TypeId} {d : TypeDesc} (hu : ∀ w : World, (Go.underlying kt).run P w = .ok d w) {x y : Value} {c : Bool} (h : Instr.sameNow d x y = some c) (n : Nat) (w : World) : (Op.equalIn (n + 1) kt x y).run P w = .ok c w := by
  unfold Instr.sameNow at h
  split at h
  · split at h
    · rename_i hk
      subst hk
      injection h with h
      subst h
      simp only [Op.equalIn, Sem.run_bind, hu, Result.andThen_ok, if_true, Sem.run_pure]
    · cases h
  · injection h with h
    subst h
    simp only [Op.equalIn, Sem.run_bind, hu, Result.andThen_ok, if_true, Sem.run_pure]
  · injection h with h
    subst h
    simp only [Op.equalIn, Sem.run_bind, hu, Result.andThen_ok, if_true, Sem.run_pure]
  · cases h
theorem B1 {kt : TypeId} {d : TypeDesc} (hu : ∀ w : World, (Go.underlying kt).run E.P w = .ok d w) {k : aA} {xk : Value} (hk : R ρ m k xk) (w : World) {es : List Ent} {l : List MapEntry} (he : MEs ρ m es l) : ∀ {i : Nat} {r : Option (Nat × aA)} {s s' : St}, (mD E kt k es i).run s = .ok r s' → bU s' →
    (Instr.findNow d xk l i = none) ∨ ∃ r', Instr.findNow d xk l i = some r' ∧ sQ es l i r r' := by
  induction he with
  | nil =>
    intro i r s s' h ho
    obtain ⟨rfl, rfl⟩ := aC h
    exact .inr ⟨none, rfl, .inl ⟨rfl, rfl⟩⟩
  | cons hx t ih =>
    rename_i e x es l
    intro i r s s' h ho
    obtain ⟨b, s1, h1, h2, ho1, _, _⟩ := M.aJ h ho
    obtain ⟨e1, r1⟩ := sM 100 9900 h1 ho1 hk hx.key w
    have r1' : (Op.equal kt xk x.key).run E.P w = .ok b w := r1
    cases hc : Instr.sameNow d xk x.key with
    | none => exact .inl (by simp only [Instr.findNow, hc])
    | some c =>
      have : (Op.equal kt xk x.key).run E.P w = .ok c w := wJ hu hc 9999 w
      rw [r1'] at this
      injection this with this
      subst this
      cases b with
      | true =>
        obtain ⟨rfl, rfl⟩ := aC h2
        exact .inr ⟨_, by simp only [Instr.findNow, hc]; rfl, .inr ⟨0, e, x, rfl, rfl, rfl, rfl⟩⟩
      | false =>
        rcases ih h2 ho with q | ⟨r', k1, k2⟩
        · exact .inl (by simp only [Instr.findNow, hc]; exact q)
        · exact .inr ⟨r', by simp only [Instr.findNow, hc]; exact k1, k2.cons⟩
theorem lR {kt : TypeId} {d : TypeDesc} (hu : ∀ w : World, (Go.underlying kt).run E.P w = .ok d w) {k : aA} {xk : Value} (hk : R ρ m k xk) (w : World) {es : List Ent} {l : List MapEntry} (he : MEs ρ m es l) {r : Option (Nat × aA)} {s s' : St} (h : (mD E kt k es 0).run s = .ok r s') (ho : bU s') :
    fS s s' ∧ ∃ r', (Instr.findKey kt xk l).run E.P w = .ok r' w ∧ sQ es l 0 r r' := by
  obtain ⟨e1, r', k1, k2⟩ := uZ hk w he h ho
  refine ⟨e1, ?_⟩
  rcases B1 hu hk w he h ho with q | ⟨r2, q1, q2⟩
  · exact ⟨r', by simp only [Instr.findKey, Sem.run_bind, hu, Result.andThen_ok, q, k1], k2⟩
  · exact ⟨r2, by simp only [Instr.findKey, Sem.run_bind, hu, Result.andThen_ok, q1, Sem.run_pure], q2⟩
theorem RV.of : ∀ {l : List aA} {xs : List Value}, l.length = xs.length → (∀ (i : Nat) v x, l[i]? = some v → xs[i]? = some x → R ρ m v x) → RV ρ m l xs
  | [], [], _, _ => .nil
  | v :: l, x :: xs, hl, h => .cons (h 0 v x rfl rfl) (RV.of (by simpa using hl) fun i a b ha hb => h (i + 1) a b (by simpa using ha) (by simpa using hb))
  | [], _ :: _, hl, _ => by simp at hl
  | _ :: _, [], hl, _ => by simp at hl
theorem RL.rv {l : List aA} {c : Array Value} (h : RL ρ m l c) : RV ρ m l c.toList := RV.of (by simpa using h.len) fun i v x hv hx => h.at_ i v x hv (by simpa using hx)
theorem FZ (l : List UInt8) : ((⟨⟨l⟩⟩ : ByteArray) == ⟨⟨l⟩⟩) = true := by rw [beq_toListBytes]; simp
theorem uE {a b : aA} (h : pK a b = true) {x y : Value} (hx : R ρ m a x) (hy : R ρ m b y) (n : Nat) : a = b ∧ x = y ∧ Instr.sameBits n x y = true := by
  unfold pK at h
  split at h
  · rename_i k a j b
    simp only [Bool.and_eq_true, decide_eq_true_eq, beq_iff_eq] at h
    obtain ⟨rfl, rfl⟩ := h
    obtain rfl := hx.cY
    obtain rfl := hy.cY
    exact ⟨rfl, rfl, by cases n <;> simp [Instr.sameBits]⟩
  · rename_i a b
    simp only [beq_iff_eq] at h
    subst h
    obtain rfl := hx.gX
    obtain rfl := hy.gX
    exact ⟨rfl, rfl, by cases n <;> simp [Instr.sameBits, FZ]⟩
  · cases h
theorem EI : ∀ {a b : List aA}, vZ a b = true → ∀ {x y : List Value}, RV ρ m a x → RV ρ m b y → ∀ n, a = b ∧ x = y ∧ (x.zip y).all (fun (p : Value × Value) => Instr.sameBits n p.1 p.2) = true
  | [], [], _, x, y, hx, hy, n => by cases hx; cases hy; exact ⟨rfl, rfl, rfl⟩
  | a :: l, b :: l', h, x, y, hx, hy, n => by
    cases hx with
    | cons h1 t1 =>
      cases hy with
      | cons h2 t2 =>
        simp only [vZ, Bool.and_eq_true] at h
        obtain ⟨rfl, rfl, q⟩ := uE h.1 h1 h2 n
        obtain ⟨rfl, rfl, q2⟩ := EI h.2 t1 t2 n
        exact ⟨rfl, rfl, by simp only [List.zip_cons_cons, List.all_cons, q, q2, Bool.and_self]⟩
  | [], _ :: _, h, _, _, _, _, _ => by cases h
  | _ :: _, [], h, _, _, _, _, _ => by cases h
theorem uD {a b : aA} (h : lN a b = true) {x y : Value} (hx : R ρ m a x) (hy : R ρ m b y) (w : World) : a = b ∧ x = y ∧ (Instr.keyThatStays x y).run E.P w = .ok y w := by
  have fin : Instr.sameBits 10000 x y = true → (Instr.keyThatStays x y).run E.P w = .ok y w := fun q => by
    simp only [Instr.keyThatStays, q, if_true, Sem.run_pure]
  unfold lN at h
  split at h
  · rename_i a b
    obtain ⟨xs, rfl, hxs⟩ := hx.iF
    obtain ⟨ys, rfl, hys⟩ := hy.iF
    obtain ⟨rfl, e, q⟩ := EI h (x := xs.toList) (y := ys.toList) hxs.rv hys.rv 9999
    have e' : xs = ys := Array.toList_inj.1 e
    subst e'
    refine ⟨rfl, rfl, fin ?_⟩
    have : Instr.sameBits (9999 + 1) (.agg xs) (.agg xs) = (xs.size == xs.size && (xs.toList.zip xs.toList).all fun (x, y) => Instr.sameBits 9999 x y) := rfl
    rw [this]
    simp only [beq_self_eq_true, Bool.true_and]
    exact q
  · obtain ⟨e, e2, q⟩ := uE h hx hy 10000
    exact ⟨e, e2, fin q⟩
  · obtain ⟨e, e2, q⟩ := uE h hx hy 10000
    exact ⟨e, e2, fin q⟩
  · cases h
theorem nX {id : Nat} {es : List Ent} {ck : Nat} (hr : Rel E.P ρ m s.heap.get w) (hg : s.heap.get id = some (.map es ck)) {x : Value} (hx : R ρ m (.map id) x) :
    ∃ r arr, x = .map (some r.b) ∧ ρ id = some r ∧ (getObj r.b).run E.P w = .ok (.map arr ck) w ∧ w.heap[r.b]? = some (.map arr ck) ∧ MEs ρ m es arr.toList := by
  cases hx with
  | map _ r hρ =>
    obtain ⟨rb, o, q1, q2, q3, q4⟩ := hr.dJ id _ hg
    rw [hρ] at q1
    injection q1 with q1
    subst q1
    cases q3 with
    | map _ _ arr hl hra =>
      exact ⟨r, arr, rfl, hρ, hM q2 (fun _ _ _ h => by cases h), q2, MEs.of (by simpa using hl) fun i e x he hx => hra i e x he (by simpa using hx)⟩
theorem lP {id : Nat} {es es' : List Ent} {ck ck' : Nat} {s1 : St} {u : Unit} {r : RB} {arr arr' : Array MapEntry} (hr : Rel E.P ρ m s.heap.get w) (hg : s.heap.get id = some (.map es ck)) (hρ : ρ id = some r) (e : fS s s1)
    (h : (jK id (.map es' ck')).run s1 = .ok u s') (hw : w.heap[r.b]? = some (.map arr ck)) (hm : MEs ρ m es' arr'.toList) :
    (setObj r.b (.map arr' ck')).run E.P w = .ok () (World.upd w r.b (.map arr' ck')) ∧ eW E.P ρ m s w ρ m s' (World.upd w r.b (.map arr' ck')) := by
  obtain ⟨_, hn, hset⟩ := nL h
  refine ⟨gL hw (fun _ _ _ h => by cases h), .refl ρ, fun _ h => .inl h, fun _ _ h => h,
    hr.upd hg hρ (.map r es' ck' arr' (by simpa using hm.len) fun i e x he hx => hm.get i e x he (by simpa using hx)) (fun j => by rw [hset j, e.heap]), World.pR _ _ _, by rw [hn, e.next]; exact Nat.le_refl _⟩
theorem DX {ok is : Bool} {a : aA} {x : Value} (hx : R ρ m a x) : R ρ m (okV ok a is) (if ok then .tuple #[x, .bool is] else x) := by
  cases ok with
  | false => exact hx
  | true =>
    refine .tup _ _ rfl (fun i v y hv hy => ?_)
    rcases i with _ | _ | i
    · simp at hv hy; subst hv; subst hy; exact hx
    · simp at hv hy; subst hv; subst hy; exact .gG _
    · simp at hv
theorem AM {t : TypeId} {r : Option aA} {r' : Option Value} (h : (uR r).run s = .ok v s') (hr : Rel E.P ρ m s.heap.get w) (hf : eX ρ s s') (hn : r = none → r' = none) :
    Out E.P ρ m s w s' v ((Instr.makeMap t r').run E.P w) := by
  unfold uR at h
  split at h
  · rw [hn rfl]
    obtain ⟨id, s1, h1, h2⟩ := M.aK h
    obtain ⟨rfl, rfl⟩ := aC h2
    obtain ⟨_, hp⟩ := l7 h1 hr hf (.map #[] 0) 0 0 (fun _ _ => .map _ [] 0 #[] rfl (fun i e x he => by simp at he))
    refine ⟨_, _, _, ?_, hp, .map id ⟨w.heap.size, 0, 0⟩ (by simp [Ren.put])⟩
    simp only [Instr.makeMap, Sem.run_bind, Result.andThen_ok, Sem.run_pure, run_newObj_alloc]
  · exact (aD h).elim
theorem rF {d : Nat} {t : TypeId} {a : aA} {u : Unit} (h : (lA E d t a).run s = .ok u s') : ∃ i, TOk E.P t i := by
  cases d with
  | zero => exact (aD h).elim
  | succ d =>
    obtain ⟨dd, s1, h1, h2⟩ := M.aK h
    obtain ⟨⟨i, hi, rfl⟩, rfl⟩ := eY h1
    exact ⟨i, hi⟩
theorem CS {t : TypeId} {a k : aA} {ok : Bool} (h : (kH E t a k ok).run s = .ok v s') (ho : bU s') (hr : Rel E.P ρ m s.heap.get w) {x y : Value} (hx : R ρ m a x) (hy : R ρ m k y) :
    Out E.P ρ m s w s' v ((Instr.lookup t x y ok).run E.P w) := by
  obtain ⟨d, s1, h1, h2⟩ := M.aK h
  obtain ⟨⟨i, hi, rfl⟩, rfl⟩ := eY h1
  have hu := hi.dT (w := w)
  cases hd : i.desc
  case map kt et =>
    rw [hd] at h2 hu
    obtain ⟨es, s2, h3, h4, ho2, _, _⟩ := M.aJ h2 ho
    obtain ⟨u, s3, h5, h6, ho3, _, _⟩ := M.aJ h4 ho
    obtain ⟨rr, s4, h7, h8, ho4, _, _⟩ := M.aJ h6 ho
    obtain ⟨i2, hi2⟩ := rF h5
    have fin : ∀ (arr : Array MapEntry), fS s1 s2 → MEs ρ m es arr.toList → (Instr.checkKey arr.isEmpty 10000 kt y).run E.P w = .ok () w ∧
        ((∃ zv, (Instr.findKey kt y arr.toList).run E.P w = .ok none w ∧ (zeroValue et).run E.P w = .ok zv w ∧ Out E.P ρ m s1 w s' v (.ok (if ok then .tuple #[zv, .bool false] else zv) w)) ∨
         (∃ n zv, (Instr.findKey kt y arr.toList).run E.P w = .ok (some (n, zv)) w ∧ Out E.P ρ m s1 w s' v (.ok (if ok then .tuple #[zv, .bool true] else zv) w))) := fun arr e0 hm => by
      obtain ⟨e1, q1⟩ := rG 100 9900 h5 ho3 hy w arr.isEmpty
      obtain ⟨e2, r', q2, q3⟩ := lR (fun w => hi2.dT (w := w)) hy w hm h7 ho4
      refine ⟨q1, ?_⟩
      rcases q3 with ⟨e3, e4⟩ | ⟨p, e, z, g1, g2, e3, e4⟩
      · subst e3; subst e4
        obtain ⟨z, s5, h9, h10⟩ := M.aK h8
        obtain ⟨⟨j, hj, rfl⟩, rfl⟩ := rW h9
        obtain ⟨rfl, rfl⟩ := aC h10
        obtain ⟨zv, hz, hzi⟩ := hj.kW (w := w)
        exact .inl ⟨zv, q2, hz, .same hr (e0.trans (e1.trans e2)) (DX (hzi ▸ gZ zv))⟩
      · subst e3; subst e4
        obtain ⟨rfl, rfl⟩ := aC h8
        exact .inr ⟨_, _, q2, .same hr (e0.trans (e1.trans e2)) (DX (hm.get p e z g1 g2).val)⟩
    unfold D7 at h3
    split at h3
    · obtain ⟨rfl, rfl⟩ := aC h3
      cases hx
      obtain ⟨q1, q⟩ := fin #[] (.refl _) .nil
      have q1 : (Instr.checkKey true 10000 kt y).run E.P w = .ok () w := q1
      have el : (#[] : Array MapEntry).toList = [] := rfl
      rw [el] at q
      rcases q with ⟨zv, q2, q3, q4⟩ | ⟨n, zv, q2, q4⟩
      · obtain ⟨xx, ww, rr, h9, h10, h11⟩ := q4
        refine ⟨xx, ww, rr, ?_, h10, h11⟩
        rw [← h9]
        simp only [Instr.lookup, Sem.run_bind, hu, Result.andThen_ok, Sem.run_pure, Array.isEmpty_empty, q1, q2, q3, Array.toList_empty]
      · obtain ⟨xx, ww, rr, h9, h10, h11⟩ := q4
        refine ⟨xx, ww, rr, ?_, h10, h11⟩
        rw [← h9]
        simp only [Instr.lookup, Sem.run_bind, hu, Result.andThen_ok, Sem.run_pure, Array.isEmpty_empty, q1, q2, Array.toList_empty]
    · rename_i id
      obtain ⟨b, s5, h9, h10⟩ := M.aK h3
      obtain ⟨hg, e1⟩ := eC h9
      unfold lX at h10
      split at h10
      · rename_i es' ck
        obtain ⟨rfl, rfl⟩ := aC h10
        obtain ⟨r, arr, rfl, hρ, hgo, hw, hm⟩ := nX hr hg hx
        obtain ⟨q1, q⟩ := fin arr e1 hm
        rcases q with ⟨zv, q2, q3, q4⟩ | ⟨n, zv, q2, q4⟩
        · obtain ⟨xx, ww, rr, h9, h10, h11⟩ := q4
          refine ⟨xx, ww, rr, ?_, h10, h11⟩
          rw [← h9]
          simp only [Instr.lookup, Sem.run_bind, hu, hgo, Result.andThen_ok, Sem.run_pure, q1, q2, q3]
        · obtain ⟨xx, ww, rr, h9, h10, h11⟩ := q4
          refine ⟨xx, ww, rr, ?_, h10, h11⟩
          rw [← h9]
          simp only [Instr.lookup, Sem.run_bind, hu, hgo, Result.andThen_ok, Sem.run_pure, q1, q2]
      · exact (aD h10).elim
    · exact (aD h3).elim
  all_goals (rw [hd] at h2; exact (aD h2).elim)
theorem MEs.modify {es : List Ent} {arr : Array MapEntry} (h : MEs ρ m es arr.toList) {p : Nat} {f : Ent → Ent} {g : MapEntry → MapEntry} (hfg : ∀ e x, es[p]? = some e → arr[p]? = some x → ME ρ m (f e) (g x)) : MEs ρ m (es.modify p f) (arr.modify p g).toList := by
  have hl := h.len
  refine MEs.of (by simpa using hl) fun i e x he hx => ?_
  rw [Array.getElem?_toList, Array.getElem?_modify] at hx
  rw [List.getElem?_modify] at he
  by_cases c : p = i
  · subst c
    rw [if_pos rfl] at hx
    cases h1 : es[p]? with
    | none => rw [h1] at he; cases he
    | some e0 =>
      cases h2 : arr[p]? with
      | none => rw [h2] at hx; cases hx
      | some x0 =>
        rw [h1] at he
        rw [h2] at hx
        simp at he
        injection hx with hx
        subst he; subst hx
        exact hfg e0 x0 h1 h2
  · rw [if_neg c] at hx
    cases h1 : es[i]? with
    | none => rw [h1] at he; cases he
    | some e0 =>
      rw [h1] at he
      simp [c] at he
      subst he
      exact h.get i e0 x h1 (by rw [Array.getElem?_toList]; exact hx)
theorem MEs.erase {es : List Ent} {l : List MapEntry} (h : MEs ρ m es l) : ∀ p, MEs ρ m (es.eraseIdx p) (l.eraseIdx p) := by
  induction h with
  | nil => intro p; exact .nil
  | cons h t ih =>
    intro p
    cases p with
    | zero => exact t
    | succ p => exact .cons h (ih p)
theorem JW {n : Int} {es : List Ent} {l : List MapEntry} (h : MEs ρ m es l) : ∀ {i j : Nat}, qJ n es i = some j → ∃ p, j = i + p ∧ l.findIdx? (fun e => (e.born : Int) == n) = some p ∧ p < l.length := by
  induction h with
  | nil => intro i j h; cases h
  | cons hx t ih =>
    rename_i e x es l
    intro i j h
    unfold qJ at h
    have hb := hx.born
    split at h
    · rename_i q
      injection h with h
      exact ⟨0, by omega, by rw [List.findIdx?_cons, hb]; simp [q], by simp⟩
    · rename_i q
      obtain ⟨p, h1, h2, h3⟩ := ih h
      exact ⟨p + 1, by omega, by rw [List.findIdx?_cons, hb, q]; simp [h2], by simpa using h3⟩
theorem yT {t : TypeId} {a k : aA} (h : (iP E t a k).run s = .ok v s') (ho : bU s') (hr : Rel E.P ρ m s.heap.get w) {x y : Value} (hx : R ρ m a x) (hy : R ρ m k y) :
    Out E.P ρ m s w s' v ((Instr.mapEntry t x y).run E.P w) := by
  obtain ⟨d, s1, h1, h2⟩ := M.aK h
  obtain ⟨⟨i, hi, rfl⟩, rfl⟩ := eY h1
  have hu := hi.dT (w := w)
  cases hd : i.desc
  case map kt et =>
    rw [hd] at h2 hu
    simp only at h2
    split at h2
    · rename_i id
      obtain ⟨b, s2, h3, h4, ho2, _, _⟩ := M.aJ h2 ho
      obtain ⟨hg, e1⟩ := eC h3
      unfold lX at h4
      split at h4
      · rename_i es ck
        obtain ⟨r, arr, rfl, hρ, hgo, hw, hm⟩ := nX hr hg hx
        obtain ⟨u, s3, h5, h6, ho3, _, _⟩ := M.aJ h4 ho
        obtain ⟨rr, s4, h7, h8, ho4, _, _⟩ := M.aJ h6 ho
        obtain ⟨i2, hi2⟩ := rF h5
        obtain ⟨e2, q1⟩ := rG 100 9900 h5 ho3 hy w false
        obtain ⟨e3, r', q2, q3⟩ := lR (fun w => hi2.dT (w := w)) hy w hm h7 ho4
        have q1 : (Instr.checkKey false 10000 kt y).run E.P w = .ok () w := q1
        have es4 := e1.trans (e2.trans e3)
        rcases q3 with ⟨e4, e5⟩ | ⟨p, e, z, g1, g2, e4, e5⟩
        · subst e4; subst e5
          obtain ⟨z, s5, h9, h10⟩ := M.aK h8
          obtain ⟨⟨j, hj, rfl⟩, rfl⟩ := rW h9
          obtain ⟨_, s6, h11, h12⟩ := M.aK h10
          obtain ⟨rfl, rfl⟩ := aC h12
          obtain ⟨zv, hz, hzi⟩ := hj.kW (w := w)
          obtain ⟨k1, k2⟩ := lP (arr' := arr.push { key := y, val := zv, born := ck }) hr hg hρ es4 h11 hw (by rw [Array.toList_push]; exact hm.app (.cons ⟨hy, hzi ▸ gZ zv, rfl⟩ .nil))
          refine ⟨.tuple #[zv, goInt ck], _, ρ, ?_, k2, ?_⟩
          · simp only [Instr.mapEntry, Sem.run_bind, hu, hgo, Result.andThen_ok, Sem.run_pure, q1, q2, hz, k1]
          · refine .tup _ _ rfl (fun i v y hv hy => ?_)
            rcases i with _ | _ | i
            · simp at hv hy; subst hv; subst hy; exact hzi ▸ gZ zv
            · simp at hv hy; subst hv; subst hy; exact .int _ _
            · simp at hv
        · subst e4; subst e5
          simp only [Nat.zero_add] at h8 q2
          obtain ⟨e', s5, h9, h10⟩ := M.aK h8
          obtain ⟨h9', rfl⟩ := j3 h9
          rw [g1] at h9'
          injection h9' with h9'
          subst h9'
          have hz := hm.get p e z g1 g2
          rw [Array.getElem?_toList] at g2
          split at h10
          · rename_i hsk
            obtain ⟨ek, ez, hst⟩ := uD (E := E) hsk hz.key hy w
            obtain ⟨_, s6, h11, h12⟩ := M.aK h10
            obtain ⟨rfl, rfl⟩ := aC h12
            have hmm : MEs ρ m es (arr.modify p fun e => { e with key := y }).toList := by
              have := hm.modify (p := p) (f := fun e => e) (g := fun e => { e with key := y }) fun e0 x0 h1 h2 => by
                rw [g1] at h1; rw [g2] at h2
                injection h1 with h1; injection h2 with h2
                subst h1; subst h2
                exact ⟨ez ▸ hz.key, hz.val, hz.born⟩
              have hid : es.modify p (fun e => e) = es := by
                refine List.ext_getElem? fun i => ?_
                rw [List.getElem?_modify]
                split <;> simp
              rwa [hid] at this
            obtain ⟨k1, k2⟩ := lP (arr' := arr.modify p fun e => { e with key := y }) hr hg hρ es4 h11 hw hmm
            refine ⟨.tuple #[z.val, goInt z.born], _, ρ, ?_, k2, ?_⟩
            · simp only [Instr.mapEntry, Sem.run_bind, hu, hgo, Result.andThen_ok, Sem.run_pure, q1, q2, g2, Option.map_some, Option.getD_some, hst, k1]
            · refine .tup _ _ rfl (fun i v y hv hy => ?_)
              rcases i with _ | _ | i
              · simp at hv hy; subst hv; subst hy; exact hz.val
              · simp at hv hy; subst hv; subst hy; rw [hz.born]; exact .int _ _
              · simp at hv
          · exact (aD h10).elim
      · exact (aD h4).elim
    · exact (aD h2).elim
  all_goals (rw [hd] at h2; exact (aD h2).elim)
def WS (P : Program) (ρ : Ren) (m : Mem) (s : St) (w : World) (s' : St) (res : Result Unit) : Prop := ∃ w' ρ', res = .ok () w' ∧ eW P ρ m s w ρ' m s' w'
theorem vC {t : TypeId} {a st b : aA} (h : (gT a st b).run s = .ok v s') (ho : bU s') (hr : Rel E.P ρ m s.heap.get w) {x y z : Value} (hx : R ρ m a x) (hy : R ρ m st y) (hz : R ρ m b z) :
    v = undef ∧ WS E.P ρ m s w s' ((Instr.entryStore t x y z).run E.P w) := by
  unfold gT at h
  split at h
  · rename_i id
    obtain ⟨b0, s2, h3, h4, ho2, _, _⟩ := M.aJ h ho
    obtain ⟨hg, e1⟩ := eC h3
    unfold lX at h4
    split at h4
    · rename_i es ck
      obtain ⟨r, arr, rfl, hρ, hgo, hw, hm⟩ := nX hr hg hx
      obtain ⟨q, n, rfl, h5⟩ := mP h4
      obtain rfl := hy.cY
      obtain ⟨i, s3, h6, h7⟩ := M.aK h5
      obtain ⟨h6', rfl⟩ := j3 h6
      obtain ⟨p, hp, hfi, hlt⟩ := JW hm h6'
      rw [Nat.zero_add] at hp
      subst hp
      obtain ⟨_, s4, h8, h9⟩ := M.aK h7
      obtain ⟨rfl, rfl⟩ := aC h9
      obtain ⟨k1, k2⟩ := lP (arr' := arr.modify i fun e => { e with val := z }) hr hg hρ e1 h8 hw (hm.modify fun e0 x0 h1 h2 => by
        have := hm.get i e0 x0 h1 (by rw [Array.getElem?_toList]; exact h2)
        exact ⟨this.key, hz, this.born⟩)
      have hfi' : arr.findIdx? (fun e => (e.born : Int) == n) = some i := by
        rw [← hfi]
        cases arr
        simp
      refine ⟨rfl, _, ρ, ?_, k2⟩
      simp only [Instr.entryStore, Sem.run_bind, hgo, Result.andThen_ok, Sem.run_pure, asInt, asIntOf, hfi', k1]
    · exact (aD h4).elim
  · exact (aD h).elim
theorem pN {t : TypeId} {a k b : aA} (h : (qD E t a k b).run s = .ok v s') (ho : bU s') (hr : Rel E.P ρ m s.heap.get w) {x y z : Value} (hx : R ρ m a x) (hy : R ρ m k y) (hz : R ρ m b z) :
    v = undef ∧ WS E.P ρ m s w s' ((Instr.mapUpdate t x y z).run E.P w) := by
  obtain ⟨d, s1, h1, h2⟩ := M.aK h
  obtain ⟨⟨i, hi, rfl⟩, rfl⟩ := eY h1
  have hu := hi.dT (w := w)
  cases hd : i.desc
  case map kt et =>
    rw [hd] at h2 hu
    simp only at h2
    split at h2
    · rename_i id
      obtain ⟨b, s2, h3, h4, ho2, _, _⟩ := M.aJ h2 ho
      obtain ⟨hg, e1⟩ := eC h3
      unfold lX at h4
      split at h4
      · rename_i es ck
        obtain ⟨r, arr, rfl, hρ, hgo, hw, hm⟩ := nX hr hg hx
        obtain ⟨u, s3, h5, h6, ho3, _, _⟩ := M.aJ h4 ho
        obtain ⟨rr, s4, h7, h8, ho4, _, _⟩ := M.aJ h6 ho
        obtain ⟨i2, hi2⟩ := rF h5
        obtain ⟨e2, q1⟩ := rG 100 9900 h5 ho3 hy w false
        obtain ⟨e3, r', q2, q3⟩ := lR (fun w => hi2.dT (w := w)) hy w hm h7 ho4
        have q1 : (Instr.checkKey false 10000 kt y).run E.P w = .ok () w := q1
        have es4 := e1.trans (e2.trans e3)
        rcases q3 with ⟨e4, e5⟩ | ⟨p, e, z', g1, g2, e4, e5⟩
        · subst e4; subst e5
          obtain ⟨_, s6, h11, h12⟩ := M.aK h8
          obtain ⟨rfl, rfl⟩ := aC h12
          obtain ⟨k1, k2⟩ := lP (arr' := arr.push { key := y, val := z, born := ck }) hr hg hρ es4 h11 hw (by rw [Array.toList_push]; exact hm.app (.cons ⟨hy, hz, rfl⟩ .nil))
          refine ⟨rfl, _, ρ, ?_, k2⟩
          simp only [Instr.mapUpdate, Sem.run_bind, hu, hgo, Result.andThen_ok, Sem.run_pure, q1, q2, k1]
        · subst e4; subst e5
          simp only [Nat.zero_add] at h8 q2
          obtain ⟨e', s5, h9, h10⟩ := M.aK h8
          obtain ⟨h9', rfl⟩ := j3 h9
          rw [g1] at h9'
          injection h9' with h9'
          subst h9'
          have hz' := hm.get p e z' g1 g2
          rw [Array.getElem?_toList] at g2
          split at h10
          · rename_i hsk
            obtain ⟨ek, ez, hst⟩ := uD (E := E) hsk hz'.key hy w
            obtain ⟨_, s6, h11, h12⟩ := M.aK h10
            obtain ⟨rfl, rfl⟩ := aC h12
            obtain ⟨k1, k2⟩ := lP (arr' := arr.modify p fun e => { e with key := y, val := z }) hr hg hρ es4 h11 hw (hm.modify fun e0 x0 h1 h2 => by
              rw [g1] at h1; rw [g2] at h2
              injection h1 with h1; injection h2 with h2
              subst h1; subst h2
              exact ⟨ez ▸ hz'.key, hz, hz'.born⟩)
            refine ⟨rfl, _, ρ, ?_, k2⟩
            simp only [Instr.mapUpdate, Sem.run_bind, hu, hgo, Result.andThen_ok, Sem.run_pure, q1, q2, g2, Option.map_some, Option.getD_some, hst, k1]
          · exact (aD h10).elim
      · exact (aD h4).elim
    · exact (aD h2).elim
  all_goals (rw [hd] at h2; exact (aD h2).elim)
theorem BK {ts : List TypeId} {ty : TypeId} {a k : aA} (h : (zM E ts a k).run s = .ok v s') (ho : bU s') (hr : Rel E.P ρ m s.heap.get w) {x y : Value} (hx : R ρ m a x) (hy : R ρ m k y) :
    Out E.P ρ m s w s' v ((Builtin.delete_ ts.toArray ty #[x, y]).run E.P w) := by
  have tup0 : R ρ m (.tup []) (.tuple #[]) := .tup _ _ rfl (fun i v x hv => by simp at hv)
  unfold zM at h
  split at h
  · rename_i t tl
    have h0 : ((t :: tl).toArray : Array TypeId)[0]? = some t := rfl
    have hx0 : (#[x, y] : Array Value)[0]? = some x := rfl
    have hx1 : (#[x, y] : Array Value)[1]? = some y := rfl
    obtain ⟨d, s1, h1, h2⟩ := M.aK h
    obtain ⟨⟨i, hi, rfl⟩, rfl⟩ := eY h1
    have hu := hi.dT (w := w)
    cases hd : i.desc
    case map kt et =>
      rw [hd] at h2 hu
      simp only at h2
      split at h2
      · rename_i id
        obtain ⟨b, s2, h3, h4, ho2, _, _⟩ := M.aJ h2 ho
        obtain ⟨hg, e1⟩ := eC h3
        unfold lX at h4
        split at h4
        · rename_i es ck
          obtain ⟨r, arr, rfl, hρ, hgo, hw, hm⟩ := nX hr hg hx
          obtain ⟨u, s3, h5, h6, ho3, _, _⟩ := M.aJ h4 ho
          obtain ⟨rr, s4, h7, h8, ho4, _, _⟩ := M.aJ h6 ho
          obtain ⟨i2, hi2⟩ := rF h5
          obtain ⟨e2, q1⟩ := rG 100 9900 h5 ho3 hy w arr.isEmpty
          obtain ⟨e3, r', q2, q3⟩ := lR (fun w => hi2.dT (w := w)) hy w hm h7 ho4
          have q1 : (Instr.checkKey arr.isEmpty 10000 kt y).run E.P w = .ok () w := q1
          have es4 := e1.trans (e2.trans e3)
          rcases q3 with ⟨e4, e5⟩ | ⟨p, e, z', g1, g2, e4, e5⟩
          · subst e4; subst e5
            obtain ⟨_, s6, h11, h12⟩ := M.aK h8
            obtain ⟨rfl, rfl⟩ := aC h12
            obtain ⟨k1, k2⟩ := lP (arr' := arr) hr hg hρ es4 h11 hw hm
            refine ⟨.tuple #[], _, ρ, ?_, k2, tup0⟩
            simp only [Builtin.delete_, h0, hx0, hx1, Sem.run_bind, hu, hgo, Result.andThen_ok, Sem.run_pure, q1, q2, k1]
          · subst e4; subst e5
            simp only [Nat.zero_add] at h8 q2
            obtain ⟨_, s6, h11, h12⟩ := M.aK h8
            obtain ⟨rfl, rfl⟩ := aC h12
            have hlt : p < arr.size := by
              have := (List.getElem?_eq_some_iff.1 g2).1
              simpa using this
            obtain ⟨k1, k2⟩ := lP (arr' := arr.eraseIdxIfInBounds p) hr hg hρ es4 h11 hw (by
              have : (arr.eraseIdxIfInBounds p).toList = arr.toList.eraseIdx p := by
                unfold Array.eraseIdxIfInBounds
                rw [dif_pos hlt]
                simp
              rw [this]
              exact hm.erase p)
            refine ⟨.tuple #[], _, ρ, ?_, k2, tup0⟩
            simp only [Builtin.delete_, h0, hx0, hx1, Sem.run_bind, hu, hgo, Result.andThen_ok, Sem.run_pure, q1, q2, k1]
        · exact (aD h4).elim
      · exact (aD h2).elim
    all_goals (rw [hd] at h2; exact (aD h2).elim)
  · exact (aD h).elim
theorem FU {a : aA} (h : (D8 a).run s = .ok v s') (ho : bU s') (hr : Rel E.P ρ m s.heap.get w) {x : Value} (hx : R ρ m a x) :
    Out E.P ρ m s w s' v ((Instr.entry x).run E.P w) := by
  unfold D8 at h
  split at h
  · rename_i id off
    split at h
    · rename_i h0
      obtain rfl := Nat.eq_of_beq_eq_true h0
      obtain ⟨b, s1, h1, h2, ho1, _, _⟩ := M.aJ h ho
      obtain ⟨hg, e1⟩ := eC h1
      split at h2
      · rename_i mm since seen gR
        obtain ⟨c, s2, h3, h4, ho2, _, _⟩ := M.aJ h2 ho
        obtain ⟨hg2, e2⟩ := eC h3
        split at h4
        · rename_i es ck
          cases hx with
          | ptr _ _ r hρ =>
            obtain ⟨rb, o, q1, q2, q3, q4⟩ := hr.dJ id _ hg
            rw [hρ] at q1
            injection q1 with q1
            subst q1
            cases q3 with
            | sU _ _ _ _ r2 hρ2 =>
              have hgo : (getObj r.b).run E.P w = .ok (.mapIter (some r2.b) since seen.toArray gR) w := hM q2 (fun _ _ _ h => by cases h)
              rw [e1.heap] at hg2
              obtain ⟨r3, arr, hxe, hρ3, hgo2, hw, hm⟩ := nX hr hg2 (.map mm r2 hρ2)
              injection hxe with hxe
              injection hxe with hxe
              split at h4
              · rename_i hck
                have hck := Nat.eq_of_beq_eq_true hck
                subst hck
                obtain ⟨st, s3, h5, h6⟩ := M.aK h4
                obtain ⟨hst, rfl⟩ := j3 h5
                obtain ⟨e, s4, h7, h8⟩ := M.aK h6
                obtain ⟨hfe, rfl⟩ := j3 h7
                obtain ⟨rfl, rfl⟩ := aC h8
                have find : ∀ {es : List Ent} {l : List MapEntry}, MEs ρ m es l → es.find? (fun e => e.2.2.beq st) = some e → ∃ z, l.find? (fun e => e.born == st) = some z ∧ ME ρ m e z := fun h => by
                  induction h with
                  | nil => intro q; cases q
                  | @cons e0 x0 es0 l0 hh t ih =>
                    intro q
                    rw [List.find?_cons] at q
                    have hb := hh.born
                    split at q
                    · rename_i c
                      injection q with q
                      subst q
                      refine ⟨_, ?_, hh⟩
                      rw [List.find?_cons, hb]
                      simp [Nat.eq_of_beq_eq_true c]
                    · rename_i c
                      obtain ⟨z, k1, k2⟩ := ih q
                      refine ⟨z, ?_, k2⟩
                      rw [List.find?_cons, hb]
                      have c2 : ¬ e0.2.2 = st := fun w => by rw [w, Nat.beq_refl] at c; cases c
                      simp only [beq_eq_false_iff_ne.2 c2]
                      exact k1
                obtain ⟨z, k1, k2⟩ := find hm hfe
                have k1' : arr.find? (fun e => e.born == st) = some z := by
                  rw [← Array.find?_toList]; exact k1
                have hback : seen.toArray.back? = some st := by
                  rw [← hst]; simp
                refine ⟨.tuple #[z.key, z.val], w, ρ, ?_, .bS hr (e1.trans e2), ?_⟩
                · rw [hxe] at hgo
                  simp only [Instr.entry, Sem.run_bind, hgo, hgo2, Result.andThen_ok, hback, bne_self_eq_false, Bool.false_eq_true, if_false, k1', Sem.run_pure]
                · refine .tup _ _ rfl (fun i v y hv hy => ?_)
                  rcases i with _ | _ | i
                  · simp at hv hy; subst hv; subst hy; exact k2.key
                  · simp at hv hy; subst hv; subst hy; exact k2.val
                  · simp at hv
              · exact (aD h4).elim
        · exact (aD h4).elim
      · exact (aD h2).elim
    · exact (aD h).elim
  · exact (aD h).elim
end
end Go.Am
