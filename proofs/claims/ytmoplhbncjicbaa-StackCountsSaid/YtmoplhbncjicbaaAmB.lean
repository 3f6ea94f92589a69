/- The abstract machine's operations: a program's tables, memory, slices, operators, calls, code. -/
import Derived.Test.YtmoplhbncjicbaaAmR
import Derived.RangeFuncLeaves
import Derived.TacticsIn
set_option linter.unusedSimpArgs false
set_option linter.unusedVariables false
namespace Go.Am
open Go

def isJunk : AVal → Bool
  | .junk => true
  | _ => false

/-! ### Tables whose rows bear the proof that they are the program's -/
structure TI where
  desc : TypeDesc
  size : Nat
  bytes : Nat
  zero : AVal
structure TOk (P : Program) (t : Nat) (i : TI) : Prop where
  info : ∃ j z, P.info? t = some j ∧ j.size = i.size ∧ j.bytes = i.bytes ∧ j.zero = some z ∧ ofValue z = i.zero
  zsize : i.zero.cells.length = i.size
  zj : isJunk i.zero = false
  und : P.underlying t = some i.desc
structure TE (P : Program) where
  t : Nat
  i : TI
  ok : TOk P t i
structure FI where
  body : Code
  ntmps : Nat
  results : List ResultVar
  /-- Which temporaries are looked at beyond the region that fills them; nothing: all are kept. -/
  keep : Option (List Bool) := none
structure FOk (P : Program) (f : Nat) (i : FI) : Prop where
  fn : ∃ fn, P.funcs[f]? = some fn ∧ fn.body = some i.body ∧ fn.ntmps = i.ntmps ∧ fn.results.toList = i.results
  call : ∀ args w, (callFunc f args).run P w = .ok (.enter f args) w
structure FE (P : Program) where
  f : Nat
  i : FI
  ok : FOk P f i
/-- A balanced tree by ranges: left of m and from m on. -/
inductive BT (α : Type) where
  | leaf (a : α)
  | node (m : Nat) (l r : BT α)
def BT.find {α : Type} : BT α → Nat → α
  | .leaf a, _ => a
  | .node m l r, n => match n.blt m with
    | true => l.find n
    | false => r.find n
/-- A function that is taken by its contract. -/
structure Hook (P : Program) where
  f : Nat
  act : List AVal → M AVal
  ok : SimCall P f act
/-- A type whose values may be compared part by part. -/
structure QE (P : Program) where
  t : Nat
  held : P.stoodInHeld t = false
  guard : P.eqGuardType P.depth t = false
/-! ### What it is that the abstract machine does what the model does -/
abbrev Fw (o : Option Nat) : Fence := { Fence.wide with round := o }
def Mem.with (m : Mem) (D : List Nat) : Mem := fun b => if b ∈ D then some (.deferred (some [])) else m b
abbrev mk (r : Nat) : Deferred := { target := .collected r, args := #[] }
/-- What left marks. -/
structure Marks (m : Mem) (D : List Nat) : Prop where
  nodup : D.Nodup
  none : ∀ r ∈ D, m r = none
inductive AExit where
  | normal | ret
  | exit (id : Nat)
inductive RX : AExit → Exit → Prop
  | normal : RX .normal .normal
  | ret : RX .ret .ret
  | exit (id : Nat) : RX (.exit id) (.exit id)
inductive RN (ρ : Ren) : Option Nat → Option Nat → Prop
  | none : RN ρ none none
  | some (id : Nat) (r : RB) (h : ρ id = some r) : RN ρ (some id) (some r.b)
/-- What stands at the end of a walk. -/
structure AtEnd (P : Program) (ρ : Ren) (m : Mem) (s : St) (w : World) (o : Option Nat) (a : Act) (e : AExit) (tm' : List AVal) (s' : St) (e' : Exit) (a' : Act) (w' : World) (ρ' : Ren) (D : List Nat) : Prop where
  post : Post P ρ m s w ρ' (m.with D) s' w'
  tmps : RL ρ' (m.with D) tm' a'.tmps
  ex : RX e e'
  defers : a'.defers = D.map mk ++ a.defers
  marks : Marks m D
  inRound : o ≠ none → D = []
def Sim1 (P : Program) (rnd : Option Nat) (c : Code) (act : List AVal → M (AExit × List AVal)) : Prop :=
  ∀ tm e tm' s s', (act tm).run s = .ok (e, tm') s' → OkObs s' → ∀ ρ m w a o n (Q : Exit → Act → World → Prop), Rel P ρ m s.heap.get w → Fresh ρ s s' → RL ρ m tm a.tmps → RN ρ rnd o →
    (∀ e' a' w' ρ' D, AtEnd P ρ m s w o a e tm' s' e' a' w' ρ' D → Q e' a' w') → c.wpIn (Fw o) n P Q a w
/-- A piece of a function's code that is taken by its contract: a region that draws its order, or a block. -/
structure CHook (P : Program) where
  fn : Nat
  id : Nat
  c : Code
  act : List AVal → M (AExit × List AVal)
  ok : ∀ rnd, Sim1 P rnd c act
open Classical in
noncomputable def chookAt {P : Program} : List (CHook P) → FuncId → Nat → Code → Option (List AVal → M (AExit × List AVal))
  | [], _, _, _ => none
  | h :: l, fn, id, c => match h.fn.beq fn && h.id.beq id with
    | true => if h.c = c then some h.act else chookAt l fn id c
    | false => chookAt l fn id c
def noHook {P : Program} (l : List (CHook P)) (fn : FuncId) (id : Nat) : Bool := l.all fun h => !(h.fn.beq fn && h.id.beq id)
theorem chook_none {P : Program} : ∀ {l : List (CHook P)} {fn : FuncId} {id : Nat} {c : Code}, noHook l fn id = true → chookAt l fn id c = none
  | [], _, _, _, _ => rfl
  | h :: l, fn, id, c, q => by
    simp only [noHook, List.all_cons, Bool.and_eq_true] at q
    unfold chookAt
    cases e : h.fn.beq fn && h.id.beq id with
    | true => rw [e] at q; cases q.1
    | false => exact chook_none q.2
theorem chook_ok {P : Program} : ∀ {l : List (CHook P)} {fn : FuncId} {id : Nat} {c : Code} {act : List AVal → M (AExit × List AVal)}, chookAt l fn id c = some act → ∀ rnd, Sim1 P rnd c act
  | h :: l, fn, id, c, act, q, rnd => by
    unfold chookAt at q
    split at q
    · split at q
      · rename_i e
        injection q with q
        rw [← q, ← e]; exact h.ok rnd
      · exact chook_ok q rnd
    · exact chook_ok q rnd
structure Env where
  P : Program
  mixed : P.follows .mixedOrders = true
  types : BT (TE P)
  funcs : BT (FE P)
  hooks : List (Hook P)
  eqs : List (QE P)
  rhooks : List (CHook P) := []
  bhooks : List (CHook P) := []

variable (E : Env)
def ti (t : TypeId) : M TI :=
  match (E.types.find t).t.beq t with
  | true => M.pure (E.types.find t).i
  | false => fail "no such type"
def und (t : TypeId) : M TypeDesc := (ti E t).bind fun i => M.pure i.desc
def sizeOf (t : TypeId) : M Nat := (ti E t).bind fun i => M.pure i.size
def zeroOf (t : TypeId) : M AVal := (ti E t).bind fun i => M.pure i.zero
def aggB : TypeDesc → Bool
  | .struct _ => true
  | .array _ _ => true
  | _ => false

/-! ### Memory -/
def rowK {α : Type} (k : Cont → TypeId → M α) : Blk → M α
  | .row c t => k c t
  | _ => fail "row expected"
/-- Cells at an address. -/
def readCells (v : AVal) (n : Nat) : M (List AVal) :=
  match v with
  | .ptr id off => (getB id).bind (rowK fun c _ => (ob ((off + n).ble c.size)).bind fun _ => M.pure (c.sub off n))
  | .ip f m off => (ob ((off + n).ble m)).bind fun _ => M.pure (cellsOf f off n)
  | _ => fail "address expected"
def oneOf : List AVal → M AVal
  | [v] => M.pure v
  | _ => fail "one cell expected"
def load (t : TypeId) (a : AVal) : M AVal :=
  (ti E t).bind fun i => match aggB i.desc with
    | true => (readCells a i.size).bind fun cs => M.pure (.agg cs)
    | false => (readCells a 1).bind oneOf
def setAll (c : Cont) (off : Nat) : List AVal → Cont
  | [] => c
  | v :: l => setAll (c.set off v) (off + 1) l
def oneCell : AVal → Bool
  | .agg _ => false
  | .tup _ => false
  | .junk => false
  | _ => true
def writeCells (a : AVal) (vs : List AVal) : M Unit :=
  match a with
  | .ptr id off => (getB id).bind (rowK fun c t => (ob ((off + vs.length).ble c.size)).bind fun _ =>
      match vs.all oneCell with
      | true => setB id (.row (setAll c off vs) t)
      | false => fail "a value of more cells than one")
  | _ => fail "an address that may be written expected"
def store (t : TypeId) (a v : AVal) : M Unit :=
  (ti E t).bind fun i => match v.cells.length.beq i.size with
    | true => writeCells a v.cells
    | false => fail "store: size"
/-- A new row; the element's type must be known. -/
def newRow (t : TypeId) (cs : List AVal) : M Nat := (ti E t).bind fun _ => newB (.row (.l cs) t)
def alloc (t : TypeId) (v : AVal) : M AVal := match isJunk v with
  | true => fail "box: unknown value"
  | false => (newRow E t v.cells).bind fun id => M.pure (.ptr id 0)

def fill (place : Nat → Option (Nat × Nat)) (cells : List AVal) : List (Nat × AVal) → Option (List AVal)
  | [] => some cells
  | (i, v) :: rest => match place i with
    | none => none
    | some (off, size) => match (isJunk v).not && v.cells.length.beq size && (off + v.cells.length).ble cells.length with
      | true => fill place (cells.take off ++ v.cells ++ cells.drop (off + v.cells.length)) rest
      | false => none
def sizesOf : List Field → M (List (Nat × Nat))
  | [] => M.pure []
  | f :: l => (sizeOf E f.type).bind fun n => (sizesOf l).bind fun r => M.pure ((f.offset, n) :: r)
def getO {α : Type} (why : String) : Option α → M α
  | some a => M.pure a
  | none => fail why
def build (t : TypeId) (parts : List (Nat × AVal)) : M AVal :=
  (ti E t).bind fun i => match i.desc with
    | .struct fs => (sizesOf E fs.toList).bind fun ps => (getO "build" (fill (ps[·]?) i.zero.cells parts)).bind fun cs => M.pure (.agg cs)
    | .array _ e => (sizeOf E e).bind fun n => (getO "build" (fill (fun i => some (i * n, n)) i.zero.cells parts)).bind fun cs => M.pure (.agg cs)
    | _ => fail "build: type"
def reps (z : List AVal) : Nat → List AVal
  | 0 => []
  | n + 1 => z ++ reps z n
def buildSlice (t : TypeId) (len : Nat) (parts : List (Nat × AVal)) : M AVal :=
  (und E t).bind fun d => match d with
    | .slice e => (ti E e).bind fun i => match (len * i.size).ble 16777216 with
      | true => (getO "buildSlice" (fill (fun k => some (k * i.size, i.size)) (reps i.zero.cells len) parts)).bind fun cs =>
          (newRow E e cs).bind fun id => M.pure (.sl id 0 len (some len) i.size)
      | false => fail "buildSlice: too long"
    | _ => fail "buildSlice: type"

def moved (n : Nat) : AVal → M AVal
  | .ptr id off => M.pure (.ptr id (off + n))
  | .ip g m off => M.pure (.ip g m (off + n))
  | _ => fail "address expected"
def fieldAddr (t : TypeId) (a : AVal) (i : Nat) : M AVal :=
  (und E t).bind fun d => match d with
    | .struct fs => (getO "no such field" fs.toList[i]?).bind fun f => (sizeOf E f.type).bind fun n => match n.beq 0 with
      | true => fail "a field of size 0"
      | false => moved f.offset a
    | _ => fail "fieldAddr: struct expected"
def idx (i : Int) (len : Nat) : M Nat := (ob (decide (0 ≤ i ∧ i < (len : Int)))).bind fun _ => M.pure i.toNat
def intK {α : Type} (k : Int → M α) : AVal → M α
  | .int _ n => k n
  | _ => fail "int expected"
def slK {α : Type} (k : Nat → Nat → Nat → Option Nat → Nat → M α) (k2 : (Nat → AVal) → Nat → Nat → Nat → M α) : AVal → M α
  | .sl id off len cap sz => k id off len cap sz
  | .isl g sz off len => k2 g sz off len
  | _ => fail "slice expected"
def indexAddr (t : TypeId) (x i : AVal) : M AVal :=
  (und E t).bind fun d => intK (fun i => match d with
    | .array len e => (sizeOf E e).bind fun n => (idx i len).bind fun j => moved (j * n) x
    | .slice e => (sizeOf E e).bind fun n =>
      slK (fun id off len _ sz => match n.beq sz with
          | true => (idx i len).bind fun j => M.pure (.ptr id (off + j * n))
          | false => fail "indexAddr: size")
        (fun g sz off len => match n.beq sz with
          | true => (idx i len).bind fun j => M.pure (.ip g (off + len * sz) (off + j * n))
          | false => fail "indexAddr: size") x
    | _ => fail "indexAddr") i
def part (t : TypeId) (cs : List AVal) (off : Nat) : M AVal :=
  (ti E t).bind fun i => match aggB i.desc with
    | true => M.pure (.agg ((cs.drop off).take i.size))
    | false => getO "part" cs[off]?
def aggK {α : Type} (k : List AVal → M α) : AVal → M α
  | .agg l => k l
  | _ => fail "struct or array expected"
def strK {α : Type} (k : List UInt8 → M α) : AVal → M α
  | .str l => k l
  | _ => fail "string expected"
def field (t : TypeId) (x : AVal) (i : Nat) : M AVal :=
  (und E t).bind fun d => match d with
    | .struct fs => aggK (fun cs => (getO "no such field" fs.toList[i]?).bind fun f => part E f.type cs f.offset) x
    | _ => fail "field"
def byteAt (s : List UInt8) (j : Nat) : UInt8 := s.getD j 0
def index (t : TypeId) (x i : AVal) : M AVal :=
  (und E t).bind fun d => intK (fun i => match d with
    | .array len e => aggK (fun cs => (idx i len).bind fun j => (sizeOf E e).bind fun n => part E e cs (j * n)) x
    | .string => strK (fun s => (idx i s.length).bind fun j => M.pure (.int .u8 (byteAt s j).toNat)) x
    | _ => fail "index") i

/-! ### Slices -/
def bound (v : Option AVal) (dflt : Nat) (most : Nat) : M Nat :=
  match v with
  | none => M.pure dflt
  | some v => intK (fun i => (ob (decide (0 ≤ i ∧ i ≤ (most : Int)))).bind fun _ => M.pure i.toNat) v
def sameSz {α : Type} (n sz : Nat) (k : M α) : M α := match n.beq sz with
  | true => k
  | false => fail "slice: size"
/-- How far a slice of unknown room may be taken: as far as its block is known to go. -/
def roomOf (id off len n : Nat) (hi : Option AVal) : M Nat :=
  match hi with
  | some (.int _ i) => match decide (i ≤ (len : Int)) with
    | true => M.pure len
    | false => (getB id).bind (rowK fun c _ => M.pure (max len ((c.size - off) / n)))
  | _ => M.pure len
/-- x[lo:hi] of whatever, x[lo:hi:max] of slices: what lies beyond what is known of the capacity is not reached. -/
def slice (t : TypeId) (x : AVal) (lo hi mx : Option AVal) : M AVal :=
  (und E t).bind fun d => match d with
    | .string => match mx with
      | none => strK (fun s => (bound hi s.length s.length).bind fun h => (bound lo 0 h).bind fun l => M.pure (.str ((s.take h).drop l))) x
      | some _ => fail "slice"
    | .slice e => (sizeOf E e).bind fun n => match mx with
      | none => match x with
        | .nils => (bound hi 0 0).bind fun h => (bound lo 0 h).bind fun _ => M.pure .nils
        | .emp => (bound hi 0 0).bind fun h => (bound lo 0 h).bind fun _ => M.pure .emp
        | .isl g sz off len => sameSz n sz ((bound hi len len).bind fun h => (bound lo 0 h).bind fun l => M.pure (.isl g sz (off + l * n) (h - l)))
        | .sl id off len cap sz => sameSz n sz (match cap with
          | some c => (bound hi len c).bind fun h => (bound lo 0 h).bind fun l => M.pure (.sl id (off + l * n) (h - l) (some (c - l)) sz)
          | none => (roomOf id off len n hi).bind fun most => (bound hi len most).bind fun h => (bound lo 0 h).bind fun l => M.pure (.sl id (off + l * n) (h - l) none sz))
        | _ => fail "slice"
      | some mx => match hi with
       | none => fail "slice"
       | some _ => match x with
        | .nils => (bound (some mx) 0 0).bind fun m => (bound hi 0 m).bind fun h => (bound lo 0 h).bind fun _ => M.pure .nils
        | .emp => (bound (some mx) 0 0).bind fun m => (bound hi 0 m).bind fun h => (bound lo 0 h).bind fun _ => M.pure .emp
        | .isl _ sz _ len => sameSz n sz ((bound (some mx) 0 0).bind fun m => (bound hi len m).bind fun h => (bound lo 0 h).bind fun _ => M.pure .emp)
        | .sl id off len cap sz => sameSz n sz ((bound (some mx) 0 (cap.getD len)).bind fun m => (bound hi len m).bind fun h => (bound lo 0 h).bind fun l =>
            M.pure (.sl id (off + l * n) (h - l) (some (m - l)) sz))
        | _ => fail "slice"
    | .array len e => (sizeOf E e).bind fun n => match mx with
      | none => (bound hi len len).bind fun h => (bound lo 0 h).bind fun l => match x with
        | .ptr id off => M.pure (.sl id (off + l * n) (h - l) (some (len - l)) n)
        | .ip g m off => (ob ((off + len * n).ble m)).bind fun _ => M.pure (.isl g n (off + l * n) (h - l))
        | _ => fail "slice"
      | some _ => fail "slice"
    | _ => fail "slice: type"
def lenOf : AVal → M Nat
  | .nils => M.pure 0
  | .emp => M.pure 0
  | .sl _ _ n _ _ => M.pure n
  | .isl _ _ _ n => M.pure n
  | .str s => M.pure s.length
  | _ => fail "len"
def byteCells : List UInt8 → List AVal
  | [] => []
  | b :: l => .int .u8 b.toNat :: byteCells l
/-- The first n elements' cells, of sz each. -/
def sliceCells (sz n : Nat) : AVal → M (List AVal)
  | .nils => (ob (n.beq 0)).bind fun _ => M.pure []
  | .emp => (ob (n.beq 0)).bind fun _ => M.pure []
  | .sl id off len _ s => sameSz s sz ((getB id).bind (rowK fun c _ => (ob (n.ble len)).bind fun _ => (ob ((off + n * sz).ble c.size)).bind fun _ => M.pure (c.sub off (n * sz))))
  | .isl g s off len => sameSz s sz ((ob (n.ble len)).bind fun _ => M.pure (cellsOf g off (n * sz)))
  | .str s => sameSz sz 1 ((ob (n.ble s.length)).bind fun _ => M.pure (byteCells (s.take n)))
  | _ => fail "slice or string expected"
def room : Nat := 281474976710656
/-- A slice in new memory: what was, and what comes. -/
def grown (e : TypeId) (i : TI) (need : Nat) (cs : List AVal) : M AVal :=
  (ob ((2 * need * i.bytes).ble room && need.ble room)).bind fun _ => (newB (.row (.l cs) e)).bind fun id => M.pure (.sl id 0 need none i.size)
def append (t : TypeId) (s x : AVal) : M AVal :=
  (und E t).bind fun d => match d with
    | .slice e => (ti E e).bind fun i => (lenOf x).bind fun n => (ask (n.beq 0)).bind fun nothing => match nothing with
      | true => match s with
        | .nils => M.pure s
        | .emp => M.pure s
        | .sl _ _ _ _ _ => M.pure s
        | .isl _ _ _ _ => M.pure s
        | _ => fail "append: slice expected"
      | false => (sliceCells i.size n x).bind fun xs => match s with
        | .nils => grown e i n xs
        | .emp => grown e i n xs
        | .sl id off len cap sz => sameSz sz i.size ((getB id).bind (rowK fun c t' => match cap with
          | some m => (ask ((len + n).ble m)).bind fun fits => match fits with
            | true => (writeCells (.ptr id (off + len * i.size)) xs).bind fun _ => M.pure (.sl id off (len + n) (some m) sz)
            | false => (sliceCells i.size len s).bind fun ys => grown e i (len + n) (ys ++ xs)
          | none => (ask ((off + (len + n) * i.size).ble c.size)).bind fun fits => match fits with
            | true => (ob (Nat.blt 0 i.size)).bind fun _ => (writeCells (.ptr id (off + len * i.size)) xs).bind fun _ => M.pure (.sl id off (len + n) none sz)
            | false => match off.beq 0 && t'.beq e && xs.all oneCell with
              | true => (sliceCells i.size len s).bind fun ys => (kill id).bind fun _ => grown e i (len + n) (ys ++ xs)
              | false => fail "append: a slice that begins within its block"))
        | _ => fail "append: slice expected"
    | _ => fail "append: type"
/-- append(s, make(.., k)..) where s has no room for it: new memory. -/
def appendZ (t : TypeId) (s : AVal) (k : Int) : M AVal :=
  (und E t).bind fun d => match d with
    | .slice e => (ti E e).bind fun i => match s with
      | .sl id off len cap sz => match cap with
        | some m => sameSz sz i.size ((ob (decide (0 < k ∧ m < len + k.toNat ∧ 0 < i.size ∧ i.zero.cells.all oneCell = true))).bind fun _ =>
            (sliceCells i.size len (.sl id off len (some m) sz)).bind fun ys => grown e i (len + k.toNat) (ys ++ reps i.zero.cells k.toNat))
        | none => fail "append of a make"
      | _ => fail "append of a make"
    | _ => fail "append: type"
def copy (t : TypeId) (dst src : AVal) : M AVal :=
  (und E t).bind fun d => match d with
    | .slice e => (lenOf src).bind fun n1 => (lenOf dst).bind fun n2 => (sizeOf E e).bind fun sz => (ask ((min n1 n2).beq 0)).bind fun nothing => match nothing with
      | true => match dst with
        | .str _ => fail "copy"
        | _ => M.pure (.int .i64 0)
      | false => (sliceCells sz (min n1 n2) src).bind fun cs => match dst with
        | .sl id off _ _ s => sameSz s sz ((writeCells (.ptr id off) cs).bind fun _ => M.pure (.int .i64 (min n1 n2 : Nat)))
        | _ => fail "copy"
    | _ => fail "copy: type"
def makeSlice (t : TypeId) (l c : AVal) : M AVal :=
  (und E t).bind fun d => match d with
    | .slice e => (ti E e).bind fun i => intK (fun l => intK (fun c =>
        (ob (decide (0 ≤ l ∧ l ≤ c ∧ c ≤ 9223372036854775807 ∧ (i.bytes : Int) * c ≤ 281474976710656))).bind fun _ =>
        (newRow E e (reps i.zero.cells c.toNat)).bind fun id => M.pure (.sl id 0 l.toNat (some c.toNat) i.size)) c) l
    | _ => fail "makeSlice"

/-! ### Operators -/
def wrapI (k : IntKind) (n : Int) : AVal := .int k (k.wrap n)
def intOp (op : BinOp) (k : IntKind) (a b : Int) : M AVal :=
  match op with
  | .add => M.pure (wrapI k (a + b))
  | .sub => M.pure (wrapI k (a - b))
  | .mul => M.pure (wrapI k (a * b))
  | .quo => (ob (decide (b ≠ 0))).bind fun _ => M.pure (wrapI k (a.tdiv b))
  | .rem => (ob (decide (b ≠ 0))).bind fun _ => M.pure (.int k (a.tmod b))
  | .and => M.pure (wrapI k (BitVec.ofInt k.bits a &&& BitVec.ofInt k.bits b).toNat)
  | .or => M.pure (wrapI k (BitVec.ofInt k.bits a ||| BitVec.ofInt k.bits b).toNat)
  | .xor => M.pure (wrapI k (BitVec.ofInt k.bits a ^^^ BitVec.ofInt k.bits b).toNat)
  | .andNot => M.pure (wrapI k (BitVec.ofInt k.bits a &&& ~~~ BitVec.ofInt k.bits b).toNat)
  | .shl => fail "intOp"
  | .shr => fail "intOp"
  | .eql => M.pure (.bool (a == b))
  | .neq => M.pure (.bool (a != b))
  | .lss => M.pure (.bool (decide (a < b)))
  | .leq => M.pure (.bool (decide (a ≤ b)))
  | .gtr => M.pure (.bool (decide (a > b)))
  | .geq => M.pure (.bool (decide (a ≥ b)))
def strOp (op : BinOp) (x y : List UInt8) : M AVal :=
  match op with
  | .add => (ob (decide (((x.length + y.length : Nat) : Int) ≤ 9223372036854775807))).bind fun _ => M.pure (.str (x ++ y))
  | .eql => M.pure (.bool (x == y))
  | .neq => M.pure (.bool (!(x == y)))
  | .lss => M.pure (.bool (Op.bytesLess x y))
  | .leq => M.pure (.bool (Op.bytesLess x y || x == y))
  | .gtr => M.pure (.bool (!(Op.bytesLess x y || x == y)))
  | .geq => M.pure (.bool (!(Op.bytesLess x y)))
  | _ => fail "strOp"
def allM {α : Type} (f : α → M Bool) : List α → M Bool
  | [] => M.pure true
  | x :: l => (f x).bind fun a => (allM f l).bind fun b => M.pure (a && b)
def boolOf : AVal → M Bool
  | .bool b => M.pure b
  | .blit b => M.pure b
  | _ => fail "bool expected"
/-- Is it nil? -/
def nilPtr : AVal → M Bool
  | .nilp => M.pure true
  | .ptr _ _ => M.pure false
  | .ip _ _ _ => M.pure false
  | _ => fail "pointer expected"
def nilFn : AVal → M Bool
  | .nilf => M.pure true
  | .fn _ _ _ => M.pure false
  | _ => fail "function expected"
def nilSl : AVal → M Bool
  | .nils => M.pure true
  | .sl _ _ _ _ _ => M.pure false
  | .isl _ _ _ _ => M.pure false
  | _ => fail "slice expected"
def nilMap : AVal → M Bool
  | .nilm => M.pure true
  | .map _ => M.pure false
  | _ => fail "map expected"
def eqAt (l : List (QE E.P)) (t : Nat) : Bool :=
  match l with
  | [] => false
  | q :: l => q.t.beq t || eqAt l t
def equal : (depth : Nat) → TypeId → AVal → AVal → M Bool
  | 0, _, _, _ => fail "equal: depth"
  | d + 1, t, x, y => (und E t).bind fun u => match u with
    | .bool => (boolOf x).bind fun a => (boolOf y).bind fun b => M.pure (a == b)
    | .int _ => match x with
      | .int k a => match y with
        | .int k' b => match decide (k = k') with
          | true => M.pure (a == b)
          | false => fail "equal: kinds"
        | _ => fail "equal"
      | _ => fail "equal"
    | .string => strK (fun a => strK (fun b => M.pure (a == b)) y) x
    | .pointer _ => (nilPtr x).bind fun a => (nilPtr y).bind fun b => match a || b with
      | true => M.pure (a && b)
      | false => fail "equal: pointers"
    | .func _ _ _ => (nilFn x).bind fun a => (nilFn y).bind fun b => match a || b with
      | true => M.pure (a && b)
      | false => fail "equal: functions"
    | .slice _ => (nilSl x).bind fun a => (nilSl y).bind fun b => match a || b with
      | true => M.pure (a && b)
      | false => fail "equal: slices"
    | .map _ _ => (nilMap x).bind fun a => (nilMap y).bind fun b => match a || b with
      | true => M.pure (a && b)
      | false => fail "equal: maps"
    | .struct fs => match eqAt E E.eqs t with
      | true => aggK (fun xs => aggK (fun ys => allM (fun (f : Field) => match decide (f.name = "_") with
          | true => M.pure true
          | false => (part E f.type xs f.offset).bind fun a => (part E f.type ys f.offset).bind fun b => equal d f.type a b) fs.toList) y) x
      | false => fail "equal: struct"
    | .array len e => match eqAt E E.eqs t with
      | true => aggK (fun xs => aggK (fun ys => (sizeOf E e).bind fun n => allM (fun i => (part E e xs (i * n)).bind fun a => (part E e ys (i * n)).bind fun b => equal d e a b) (List.range len)) y) x
      | false => fail "equal: array"
    | _ => fail "equal: type"
def equalTop (t : TypeId) (x y : AVal) : M Bool := equal E 100 t x y
def shiftOp (op : BinOp) (k : IntKind) (a b : Int) : M AVal :=
  (ob (decide (0 ≤ b))).bind fun _ => match op with
    | .shl => M.pure (wrapI k (a * 2 ^ (min b.toNat k.bits)))
    | .shr => M.pure (.int k (a.fdiv (2 ^ (min b.toNat k.bits))))
    | _ => fail "shift"
def shiftB : BinOp → Bool
  | .shl => true
  | .shr => true
  | _ => false
def binOther (op : BinOp) (t : TypeId) (x y : AVal) : M AVal :=
  match op with
  | .eql => (equalTop E t x y).bind fun b => M.pure (.bool b)
  | .neq => (equalTop E t x y).bind fun b => M.pure (.bool (!b))
  | _ => fail "binOp"
def binInt (op : BinOp) (k : IntKind) (a : Int) : AVal → M AVal
  | .int k' b => match shiftB op with
    | true => shiftOp op k a b
    | false => match decide (k = k') with
      | true => intOp op k a b
      | false => fail "binOp: kinds"
  | _ => fail "binOp"
def binOp (op : BinOp) (t : TypeId) (x y : AVal) : M AVal :=
  match x with
  | .int k a => binInt op k a y
  | .str a => strK (fun b => strOp op a b) y
  | x => binOther E op t x y
def unOp (op : UnOp) (x : AVal) : M AVal :=
  match op with
  | .neg => match x with
    | .int k n => M.pure (wrapI k (0 - n))
    | _ => fail "unOp"
  | .xor => match x with
    | .int k n => intOp .xor k (if k.signed then -1 else k.max) n
    | _ => fail "unOp"
  | .not => match x with
    | .bool b => M.pure (.bool (!b))
    | .blit b => M.pure (.blit (!b))
    | _ => fail "unOp"
  | .plus => fail "unOp"
def isByte : AVal → Bool
  | .int .u8 _ => true
  | _ => false
def toByte : AVal → UInt8
  | .int _ n => UInt8.ofNat n.toNat
  | _ => 0
def isU8 : TypeDesc → Bool
  | .int .u8 => true
  | _ => false
def convStr (e : TypeId) (x : AVal) : M AVal :=
  (und E e).bind fun u => match isU8 u with
    | true => (lenOf x).bind fun n => (sliceCells 1 n x).bind fun cs => (ob (cs.all isByte)).bind fun _ => M.pure (.str (cs.map toByte))
    | false => fail "convert: slice"
/-- A block is looked at, and is as it was. -/
def touch (id : Nat) : M Unit := (getB id).bind fun b => setB id b
def convert (src dst : TypeId) (x : AVal) : M AVal :=
  (und E src).bind fun s => (und E dst).bind fun d => match d with
    | .int k => intK (fun n => M.pure (wrapI k n)) x
    | .string => match s with
      | .string => strK (fun l => M.pure (.str l)) x
      | .slice e => match x with
        | .str _ => fail "convert"
        | x => convStr E e x
      | _ => fail "convert"
    | .slice e => (und E e).bind fun u => match isU8 u with
      | true => match s with
        | .string => strK (fun l => (sizeOf E e).bind fun n => sameSz n 1 ((newRow E e (byteCells l)).bind fun id => M.pure (.sl id 0 l.length none 1))) x
        | .slice _ => match src.beq dst with
          | true => match x with
            | .sl id off len cap sz => (getB id).bind (rowK fun c t => (ob ((match cap with | some k => Nat.blt 0 k | none => off.blt c.size) && t.beq e)).bind fun _ => (touch id).bind fun _ => M.pure (.sl id off len cap sz))
            | _ => fail "convert"
          | false => fail "convert"
        | _ => fail "convert"
      | false => fail "convert"
    | _ => fail "convert"
def extract (x : AVal) (i : Nat) : M AVal :=
  match x with
  | .tup l => getO "extract" l[i]?
  | _ => fail "extract: tuple expected"
def min2 (x y : AVal) : M AVal :=
  match x with
  | .int k a => intK (fun b => M.pure (.int k (if b < a then b else a))) y
  | _ => fail "min"
def max2 (x y : AVal) : M AVal :=
  match x with
  | .int k a => intK (fun b => M.pure (.int k (if a < b then b else a))) y
  | _ => fail "max"
def foldM2 (f : AVal → AVal → M AVal) (x : AVal) : List AVal → M AVal
  | [] => M.pure x
  | y :: l => (f x y).bind fun z => foldM2 f z l
/-- A string's iterator. -/
def range (t : TypeId) (x : AVal) : M AVal :=
  (und E t).bind fun d => match d with
    | .string => strK (fun s => (newB (.siter s 0)).bind fun id => M.pure (.ptr id 0)) x
    | .map _ _ => match x with
      | .map id => (getB id).bind fun b => match b with
        | .map _ ck => (newB (.miter id ck [] ck)).bind fun it => M.pure (.ptr it 0)
        | _ => fail "range"
      | _ => fail "range"
    | _ => fail "range"
def nextS (id : Nat) : Blk → M AVal
  | .siter s pos => (ask (pos.blt s.length)).bind fun more => match more with
    | true => (setB id (.siter s (pos + (Utf8.decode ⟨⟨s⟩⟩ pos).2))).bind fun _ => M.pure (.tup [.blit true, .int .i64 pos, .int .i32 (Utf8.decode ⟨⟨s⟩⟩ pos).1])
    | false => M.pure (.tup [.blit false])
  | _ => fail "next"
def next (x : AVal) : M AVal :=
  match x with
  | .ptr id off => match off.beq 0 with
    | true => (getB id).bind (nextS id)
    | false => fail "next"
  | _ => fail "next"

/-! ### Frames and calls -/
def opd (tm : List AVal) : Operand → AVal
  | .tmp t => nth tm t undef
  | .const v => ofValue v
  | .global _ => .junk
  | .func f => .fn (.func f) [] []
def opds (tm : List AVal) : List Operand → List AVal
  | [] => []
  | x :: l => opd tm x :: opds tm l
abbrev Rec := FuncId → Option Nat → Code → List AVal → M (AExit × List AVal)
variable (rec : Rec)
def resultOf (tm : List AVal) : List ResultVar → M (List AVal)
  | [] => M.pure []
  | r :: l => match r with
    | .tmp t => (resultOf tm l).bind fun r => M.pure (nth tm t undef :: r)
    | .cell a t => (load E t (nth tm a undef)).bind fun v => (resultOf tm l).bind fun r => M.pure (v :: r)
def oneOrTup : List AVal → AVal
  | [v] => v
  | l => .tup l
def ended (tm : List AVal) (rs : List ResultVar) : M AVal := (resultOf E tm rs).bind fun r => M.pure (oneOrTup r)
def callI (f : FuncId) (args : List AVal) : M AVal :=
  match (E.funcs.find f).f.beq f with
  | true => (rec f none (E.funcs.find f).i.body (args ++ List.replicate ((E.funcs.find f).i.ntmps - args.length) undef)).bind fun r => match r.1 with
    | .exit _ => fail "left by an exit"
    | .normal => ended E r.2 (E.funcs.find f).i.results
    | .ret => ended E r.2 (E.funcs.find f).i.results
  | false => fail "no such function"
def hookAt (l : List (Hook E.P)) (f : FuncId) (args : List AVal) (k : M AVal) : M AVal :=
  match l with
  | [] => k
  | h :: l => match h.f.beq f with
    | true => h.act args
    | false => hookAt l f args k
def callF (f : FuncId) (args : List AVal) : M AVal := hookAt E E.hooks f args (callI E rec f args)
def loopK {α : Type} (k : ALoop → M α) : Blk → M α
  | .loop l => k l
  | _ => fail "loop expected"
def putAll (tm : List AVal) : List (Tmp × AVal) → List AVal
  | [] => tm
  | (t, v) :: l => putAll (put tm t v) l
def jumpOf : AExit → Option Code
  | .normal => none
  | .ret => some .ret
  | .exit id => some (.exit id)
def normB : AExit → Bool
  | .normal => true
  | _ => false
def yieldTo (id : Nat) (args : List AVal) : M AVal :=
  (getB id).bind (loopK fun l => match args.length.beq l.params.length with
    | false => fail "yield: arguments"
    | true => match l.state with
      | .ready => (rec l.fn (some id) l.assign (putAll l.tmps (l.params.zip args))).bind fun r => match r.1 with
        | .normal => (getB id).bind (loopK fun l2 => match l2.state with
          | .ready => (setB id (.loop { l2 with state := .busy })).bind fun _ => (rec l.fn (some id) l.body r.2).bind fun r2 =>
              (getB id).bind (loopK fun l3 => (setB id (.loop { l3 with state := (match normB r2.1 with | true => .ready | false => .done), pending := jumpOf r2.1 })).bind fun _ =>
                M.pure (.blit (normB r2.1)))
          | _ => fail "yield: not ready")
        | _ => fail "assign"
      | _ => fail "yield: not ready")
def callV (f : AVal) (args : List AVal) : M AVal :=
  match f with
  | .fn g first cap => match g with
    | .func g => callF E rec g (first ++ args ++ cap)
    | .yield id => match first with
      | [] => yieldTo rec id args
      | _ => fail "call"
    | _ => fail "call"
  | _ => fail "call"
def bLen (ts : List TypeId) (x : AVal) : M AVal :=
  match ts with
  | t :: _ => (und E t).bind fun d => match d with
    | .array n _ => M.pure (.int .i64 n)
    | .pointer a => (und E a).bind fun d => match d with
      | .array n _ => M.pure (.int .i64 n)
      | _ => fail "len"
    | .string => strK (fun s => M.pure (.int .i64 s.length)) x
    | .slice _ => match x with
      | .str _ => fail "len"
      | x => (lenOf x).bind fun n => M.pure (.int .i64 n)
    | .map _ _ => match x with
      | .nilm => M.pure (.int .i64 0)
      | .map id => (getB id).bind fun b => match b with
        | .map es _ => M.pure (.int .i64 (es.length : Nat))
        | _ => fail "len"
      | _ => fail "len"
    | _ => fail "len"
  | [] => fail "len"
/-! ### Maps -/
abbrev Ent := AVal × AVal × Nat
def mapK {α : Type} (k : List Ent → Nat → M α) : Blk → M α
  | .map es ck => k es ck
  | _ => fail "map expected"
def same1 : AVal → AVal → Bool
  | .int k a, .int j b => decide (k = j) && a == b
  | .str a, .str b => a == b
  | _, _ => false
def all2 : List AVal → List AVal → Bool
  | [], [] => true
  | a :: x, b :: y => same1 a b && all2 x y
  | _, _ => false
/-- The same key, bit by bit. -/
def sameKey : AVal → AVal → Bool
  | .agg a, .agg b => all2 a b
  | .int k a, .int j b => same1 (.int k a) (.int j b)
  | .str a, .str b => same1 (.str a) (.str b)
  | _, _ => false
def allU {α : Type} (f : α → M Unit) : List α → M Unit
  | [] => M.pure ()
  | x :: l => (f x).bind fun _ => allU f l
def keyB : Nat → TypeId → AVal → M Unit
  | 0, _, _ => fail "key: depth"
  | d + 1, t, v => (und E t).bind fun u => match u with
    | .bool => M.pure ()
    | .int _ => M.pure ()
    | .string => M.pure ()
    | .struct fs => aggK (fun xs => allU (fun (f : Field) => match decide (f.name = "_") with
        | true => M.pure ()
        | false => (part E f.type xs f.offset).bind fun a => keyB d f.type a) fs.toList) v
    | .array n e => aggK (fun xs => (sizeOf E e).bind fun z => allU (fun i => (part E e xs (i * z)).bind fun a => keyB d e a) (List.range n)) v
    | _ => fail "key: type"
def findA (t : TypeId) (k : AVal) : List Ent → Nat → M (Option (Nat × AVal))
  | [], _ => M.pure none
  | e :: es, i => (equalTop E t k e.1).bind fun b => match b with
    | true => M.pure (some (i, e.2.1))
    | false => findA t k es (i + 1)
def entsOf : AVal → M (List Ent)
  | .nilm => M.pure []
  | .map id => (getB id).bind (mapK fun es _ => M.pure es)
  | _ => fail "map expected"
def okV (ok : Bool) (v : AVal) (is : Bool) : AVal := match ok with
  | true => .tup [v, .blit is]
  | false => v
def lookupM (t : TypeId) (x k : AVal) (ok : Bool) : M AVal :=
  (und E t).bind fun d => match d with
    | .map kt et => (entsOf x).bind fun es => (keyB E 100 kt k).bind fun _ => (findA E kt k es 0).bind fun r => match r with
      | some p => M.pure (okV ok p.2 true)
      | none => (zeroOf E et).bind fun z => M.pure (okV ok z false)
    | _ => fail "lookup"
def setVal (es : List Ent) (i : Nat) (v : AVal) : List Ent := es.modify i fun e => (e.1, v, e.2.2)
def mapEntryM (t : TypeId) (x k : AVal) : M AVal :=
  (und E t).bind fun d => match d with
    | .map kt et => match x with
      | .map id => (getB id).bind (mapK fun es ck => (keyB E 100 kt k).bind fun _ => (findA E kt k es 0).bind fun r => match r with
        | some p => (getO "entry" es[p.1]?).bind fun e => match sameKey e.1 k with
          | true => (setB id (.map es ck)).bind fun _ => M.pure (.tup [p.2, .int .i64 e.2.2])
          | false => fail "a key that is not the same bit by bit"
        | none => (zeroOf E et).bind fun z => (setB id (.map (es ++ [(k, z, ck)]) (ck + 1))).bind fun _ => M.pure (.tup [z, .int .i64 ck]))
      | _ => fail "mapEntry"
    | _ => fail "mapEntry"
def bornAt (n : Int) : List Ent → Nat → Option Nat
  | [], _ => none
  | e :: es, i => match ((e.2.2 : Int) == n) with
    | true => some i
    | false => bornAt n es (i + 1)
def entryStoreM (x st v : AVal) : M AVal :=
  match x with
  | .map id => (getB id).bind (mapK fun es ck => intK (fun n => (getO "entryStore" (bornAt n es 0)).bind fun i => (setB id (.map (setVal es i v) ck)).bind fun _ => M.pure undef) st)
  | _ => fail "entryStore"
def mapUpdateM (t : TypeId) (x k v : AVal) : M AVal :=
  (und E t).bind fun d => match d with
    | .map kt et => match x with
      | .map id => (getB id).bind (mapK fun es ck => (keyB E 100 kt k).bind fun _ => (findA E kt k es 0).bind fun r => match r with
        | some p => (getO "entry" es[p.1]?).bind fun e => match sameKey e.1 k with
          | true => (setB id (.map (setVal es p.1 v) ck)).bind fun _ => M.pure undef
          | false => fail "a key that is not the same bit by bit"
        | none => (setB id (.map (es ++ [(k, v, ck)]) (ck + 1))).bind fun _ => M.pure undef)
      | _ => fail "mapUpdate"
    | _ => fail "mapUpdate"
def makeMapM (r : Option AVal) : M AVal :=
  match r with
  | none => (newB (.map [] 0)).bind fun id => M.pure (.map id)
  | some _ => fail "makeMap"
def entryM (x : AVal) : M AVal :=
  match x with
  | .ptr id off => match off.beq 0 with
    | true => (getB id).bind fun b => match b with
      | .miter mm _ seen last => (getB mm).bind fun c => match c with
        | .map es ck => match ck.beq last with
          | true => (getO "entry" seen.getLast?).bind fun st => (getO "entry" (es.find? fun e => e.2.2.beq st)).bind fun e => M.pure (.tup [e.1, e.2.1])
          | false => fail "entry"
        | _ => fail "entry"
      | _ => fail "entry"
    | false => fail "entry"
  | _ => fail "entry"
def bDelete (ts : List TypeId) (x k : AVal) : M AVal :=
  match ts with
  | t :: _ => (und E t).bind fun d => match d with
    | .map kt _ => match x with
      | .map id => (getB id).bind (mapK fun es ck => (keyB E 100 kt k).bind fun _ => (findA E kt k es 0).bind fun r => match r with
        | some p => (setB id (.map (es.eraseIdx p.1) ck)).bind fun _ => M.pure (.tup [])
        | none => (setB id (.map es ck)).bind fun _ => M.pure (.tup []))
      | _ => fail "delete"
    | _ => fail "delete"
  | [] => fail "delete"
def intB : TypeDesc → Bool
  | .int _ => true
  | _ => false
def bAppend (ts : List TypeId) (s x : AVal) : M AVal :=
  match ts with
  | t :: t2 :: _ => (und E t2).bind fun d => match intB d with
    | true => match ts with
      | _ :: _ :: [] => intK (appendZ E t s) x
      | _ => fail "append of a make"
    | false => append E t s x
  | _ => fail "append"
def bCopy (ts : List TypeId) (x y : AVal) : M AVal :=
  match ts with
  | t :: _ => copy E t x y
  | [] => fail "copy"
def capOf : AVal → M Nat
  | .nils => M.pure 0
  | .emp => M.pure 0
  | .sl _ _ _ cap _ => match cap with
    | some c => M.pure c
    | none => fail "cap: not known"
  | _ => fail "cap"
def bCap (ts : List TypeId) (x : AVal) : M AVal :=
  match ts with
  | t :: _ => (und E t).bind fun d => match d with
    | .slice _ => (capOf x).bind fun n => M.pure (.int .i64 n)
    | _ => fail "cap"
  | [] => fail "cap"
def bClear (ts : List TypeId) (x : AVal) : M AVal :=
  match ts with
  | t :: _ => (und E t).bind fun d => match d with
    | .slice e => match x with
      | .nils => M.pure (.tup [])
      | .emp => M.pure (.tup [])
      | .sl id off len _ sz => (ask (len.beq 0)).bind fun nothing => match nothing with
        | true => M.pure (.tup [])
        | false => (ti E e).bind fun i => sameSz i.size sz ((writeCells (.ptr id off) (reps i.zero.cells len)).bind fun _ => M.pure (.tup []))
      | _ => fail "clear"
    | .map _ _ => match x with
      | .nilm => M.pure (.tup [])
      | .map id => (getB id).bind (mapK fun _ ck => (setB id (.map [] ck)).bind fun _ => M.pure (.tup []))
      | _ => fail "clear"
    | _ => fail "clear"
  | [] => fail "clear"
def one1 (k : AVal → M AVal) : List AVal → M AVal
  | [x] => k x
  | _ => fail "one argument expected"
def two2 (k : AVal → AVal → M AVal) : List AVal → M AVal
  | [x, y] => k x y
  | _ => fail "two arguments expected"
def some1 (k : AVal → List AVal → M AVal) : List AVal → M AVal
  | x :: l => k x l
  | [] => fail "an argument expected"
def builtin (b : Builtin) (ts : List TypeId) (args : List AVal) : M AVal :=
  match b with
  | .len => one1 (bLen E ts) args
  | .append => two2 (bAppend E ts) args
  | .copy => two2 (bCopy E ts) args
  | .min => some1 (foldM2 min2) args
  | .max => some1 (foldM2 max2) args
  | .cap => one1 (bCap E ts) args
  | .clear => one1 (bClear E ts) args
  | .delete => two2 (bDelete E ts) args
  | _ => fail "builtin"
def ops2 (tm : List AVal) : List (Nat × Operand) → List (Nat × AVal)
  | [] => []
  | p :: l => (p.1, opd tm p.2) :: ops2 tm l
def opt (tm : List AVal) : Option Operand → Option AVal
  | none => none
  | some x => some (opd tm x)
def doPick (t a b : AVal) : M AVal := (branch t).bind fun t => match t with
  | true => M.pure a
  | false => M.pure b
def doStore (t : TypeId) (a v : AVal) : M AVal := (store E t a v).bind fun _ => M.pure undef
def nilCheck (x : AVal) : M AVal :=
  match x with
  | .ptr id off => M.pure (.ptr id off)
  | .ip f n off => M.pure (.ip f n off)
  | .fn f a c => match f with
    | .func g => M.pure (.fn (.func g) a c)
    | .yield g => M.pure (.fn (.yield g) a c)
    | _ => fail "nilCheck"
  | _ => fail "nilCheck"
def doCall (tm : List AVal) (c : Call) : M AVal :=
  match c.callee with
  | .value f => callV E rec (opd tm f) (opds tm c.args.toList)
  | .builtin b => builtin E b c.argTypes.toList (opds tm c.args.toList)
  | .invoke _ _ => fail "invoke"
def doAlloc (t : TypeId) : M AVal := (zeroOf E t).bind fun z => alloc E t z
def execOp (tm : List AVal) (o : Op) : M AVal :=
  match o with
  | .move x => M.pure (opd tm x)
  | .assign x => M.pure (opd tm x)
  | .pick c a b => doPick (opd tm c) (opd tm a) (opd tm b)
  | .alloc t => doAlloc E t
  | .box t x => alloc E t (opd tm x)
  | .build t ps => build E t (ops2 tm ps.toList)
  | .buildSlice t n ps => buildSlice E t n (ops2 tm ps.toList)
  | .load t a => load E t (opd tm a)
  | .store t a x => doStore E t (opd tm a) (opd tm x)
  | .nilCheck x => nilCheck (opd tm x)
  | .binOp op t x y _ => binOp E op t (opd tm x) (opd tm y)
  | .unOp op _ x => unOp op (opd tm x)
  | .convert s d x => convert E s d (opd tm x)
  | .makeFunc f a c => match f with
    | .func g => M.pure (.fn (.func g) (opds tm a.toList) (opds tm c.toList))
    | _ => fail "makeFunc" 
  | .makeSlice t l c => makeSlice E t (opd tm l) (opd tm c)
  | .slice t x lo hi mx => slice E t (opd tm x) (opt tm lo) (opt tm hi) (opt tm mx)
  | .fieldAddr t x f => fieldAddr E t (opd tm x) f
  | .field t x f => field E t (opd tm x) f
  | .indexAddr t x i => indexAddr E t (opd tm x) (opd tm i)
  | .index t x i => index E t (opd tm x) (opd tm i)
  | .range t x => range E t (opd tm x)
  | .next x s => match s with
    | true => next (opd tm x)
    | false => fail "next of a map"
  | .extract x i => extract (opd tm x) i
  | .call c => doCall E rec tm c
  | .makeMap _ r => makeMapM (opt tm r)
  | .entry x => entryM (opd tm x)
  | .lookup t x k ok => lookupM E t (opd tm x) (opd tm k) ok
  | .mapUpdate t x k y => mapUpdateM E t (opd tm x) (opd tm k) (opd tm y)
  | .insert t x k y => mapUpdateM E t (opd tm x) (opd tm k) (opd tm y)
  | .mapEntry t x k => mapEntryM E t (opd tm x) (opd tm k)
  | .entryStore _ x st y => entryStoreM (opd tm x) (opd tm st) (opd tm y)
  | _ => fail "an operation that is not known"
def putT (tm : List AVal) (d : Option Tmp) (v : AVal) : List AVal :=
  match d with
  | some d => put tm d v
  | none => tm
def wantB (want : Bool) : AVal → M Bool
  | .bool b => (ask b).bind fun t => M.pure (t == want)
  | .blit b => M.pure (b == want)
  | .junk => fail "guard"
  | _ => M.pure false
/-- Is an operation wanted? By the operation that guards it. -/
def wanted (ops : List Oper) (tm : List AVal) (g : Option (Nat × Bool)) : M Bool :=
  match g with
  | none => M.pure true
  | some p => match (ops[p.1]?).bind (·.dst) with
    | none => M.pure false
    | some d => wantB p.2 (nth tm d undef)
/-- What an operation gives, wanted or not. -/
def opV (ops : List Oper) (o : Oper) (tm : List AVal) : M AVal :=
  (wanted ops tm o.guard).bind fun w => match w with
    | true => execOp E rec tm o.op
    | false => M.pure undef
def opAt (ops : List Oper) (o : Oper) (tm : List AVal) : M (List AVal) := (opV E rec ops o tm).bind fun v => M.pure (putT tm o.dst v)
def evalOps (ops : List Oper) : List Oper → List AVal → M (List AVal)
  | [], tm => M.pure tm
  | o :: rest, tm => (opAt E rec ops o tm).bind fun tm => evalOps ops rest tm

/-! ### A region that draws its order: what its operations read and wrote is held against each other -/
/-- What an operation read and wrote of what it has not made, and what it made: the blocks from lo, below hi. -/
structure Foot where
  j : Nat
  r : List Nat
  w : List Nat
  lo : Nat
  hi : Nat
def old (lo hi id : Nat) : Bool := id.blt lo || hi.ble id
def footF {α : Type} (j : Nat) (m : M α) (s : St) : Res (α × Foot) :=
  match m.run { s with rds := [], wrs := [] } with
  | .ok a s' => .ok (a, ⟨j, s'.rds.filter (old s.next s'.next), s'.wrs.filter (old s.next s'.next), s.next, s'.next⟩) { s' with rds := s'.rds ++ s.rds, wrs := s'.wrs ++ s.wrs }
  | .fail w => .fail w
  | .ask b => .ask b
theorem loc_foot {α : Type} (j : Nat) (m : M α) : Loc (footF j m) := by
  intro s a s' h
  unfold footF at h
  cases hm : m.run { s with rds := [], wrs := [] } with
  | fail w => rw [hm] at h; cases h
  | ask b => rw [hm] at h; cases h
  | ok a1 s1 =>
    rw [hm] at h
    injection h with h1 h2
    subst h1; subst h2
    obtain ⟨r, w, o, d⟩ := m.loc _ _ _ hm
    have er : s1.rds = r := by simpa using d.rds
    have ew : s1.wrs = w := by simpa using d.wrs
    refine ⟨r, w, o, ⟨d.next, by simp [er], by simp [ew], d.obs, d.rest, d.live, fun t hn ho hg => ?_, d.orc, d.rlive⟩⟩
    obtain ⟨t', e, hn', ho', hr', hw', hob', hg', hk'⟩ := d.again { t with rds := [], wrs := [] } hn ho hg
    have er' : t'.rds = r := by simpa using hr'
    have ew' : t'.wrs = w := by simpa using hw'
    refine ⟨{ t' with rds := t'.rds ++ t.rds, wrs := t'.wrs ++ t.wrs }, ?_, hn', ho', by simp [er'], by simp [ew'], hob', hg', hk'⟩
    unfold footF
    rw [e]
    simp only [hn, hn', er, ew, er', ew']
def foot {α : Type} (j : Nat) (m : M α) : M (α × Foot) := ⟨footF j m, loc_foot j m⟩
def meets (x y : List Nat) : Bool := x.any fun a => y.any fun b => a.beq b
def within (lo hi id : Nat) : Bool := lo.ble id && id.blt hi
/-- Did one look at what the other made? -/
def hits (x : List Nat) (f : Foot) : Bool := match f.lo.beq f.hi with
  | true => false
  | false => x.any (within f.lo f.hi)
/-- May two operations not change places? -/
def clash (a b : Foot) : Bool := meets a.w b.r || (meets a.w b.w || (meets a.r b.w || (hits a.r b || (hits a.w b || (hits b.r a || hits b.w a)))))
def bitsOf (acc : List Nat) : List Edge → Nat
  | [] => 0
  | e :: l => match Region.binds .any e with
    | true => bitsOf acc l ||| (2 ^ e.on ||| acc.getD e.on 0)
    | false => bitsOf acc l
/-- The operations that stand ahead of each in every order: as bits. -/
def befores (acc : List Nat) : List Oper → List Nat
  | [] => acc
  | o :: l => befores (acc ++ [bitsOf acc o.after.toList]) l
def fine (bs : List Nat) : List Foot → Bool
  | [] => true
  | b :: l => l.all (fun a => (clash a b).not || (bs.getD b.j 0).testBit a.j) && fine bs l
/-- The operations in the order of the text; the feet, the last one first. -/
def evalFeet (ops : List Oper) : Nat → List Oper → List AVal → List Foot → M (List AVal × List Foot)
  | _, [], tm, fs => M.pure (tm, fs)
  | j, o :: rest, tm, fs => (foot j (opV E rec ops o tm)).bind fun r => evalFeet ops (j + 1) rest (putT tm o.dst r.1) (r.2 :: fs)
def tmpsOf : List Operand → List Nat
  | [] => []
  | x :: l => match x with
    | .tmp t => t :: tmpsOf l
    | _ => tmpsOf l
def looks (ops : List Oper) (o : Oper) : List Nat :=
  tmpsOf o.op.operands.toList ++
  (match o.guard with
   | some p => ((ops[p.1]?).bind (·.dst)).toList
   | none => [])
/-- .. what they say of the temporaries, by the text alone. -/
def textFeet (ops : List Oper) (j : Nat) : List Oper → List Foot → List Foot
  | [], fs => fs
  | o :: rest, fs => textFeet ops (j + 1) rest (⟨j, looks ops o, o.dst.toList, 0, 0⟩ :: fs)
def backB (j : Nat) : List Oper → Bool
  | [] => true
  | o :: l => o.after.toList.all (fun e => match Region.binds .any e with
      | true => e.on.blt j
      | false => true) && backB (j + 1) l
def textFine (ops : List Oper) : Bool := backB 0 ops && fine (befores [] ops) (textFeet ops 0 ops [])
def evalDraw (ops : List Oper) (tm : List AVal) : M (List AVal) :=
  (ob (textFine ops)).bind fun _ => (evalFeet E rec ops 0 ops tm []).bind fun r => (ob (fine (befores [] ops) r.2)).bind fun _ => M.pure r.1

def rangeK (id : Nat) (tm : List AVal) : M (AExit × List AVal) :=
  (getB id).bind (loopK fun l => match l.state with
    | .busy => fail "busy"
    | _ => (setB id (.loop { l with state := .exhausted })).bind fun _ => match l.pending with
      | none => M.pure (.normal, tm)
      | some c => match c with
        | .ret => M.pure (.ret, tm)
        | .exit j => M.pure (.exit j, tm)
        | _ => fail "pending")
def forgetL : List Bool → List AVal → List AVal
  | [], tm => tm
  | _ :: _, [] => []
  | b :: k, a :: tm => (match b with | true => a | false => .junk) :: forgetL k tm
/-- What no other region looks at is forgotten. -/
def forget (fn : FuncId) (tm : List AVal) : List AVal :=
  match (E.funcs.find fn).i.keep with
  | none => tm
  | some k => forgetL k tm
noncomputable def step (fn : FuncId) (rnd : Option Nat) (c : Code) (tm : List AVal) : M (AExit × List AVal) :=
  match c with
  | .skip => M.pure (.normal, tm)
  | .label _ => M.pure (.normal, tm)
  | .region id ops draw => match draw with
    | false => (evalOps E rec ops.toList ops.toList tm).bind fun tm => M.pure (.normal, forget E fn tm)
    | true => match chookAt E.rhooks fn id (.region id ops true) with
      | some act => act tm
      | none => (evalDraw E rec ops.toList tm).bind fun tm => M.pure (.normal, forget E fn tm)
  | .seq a b => (rec fn rnd a tm).bind fun r => match r.1 with
    | .normal => rec fn rnd b r.2
    | _ => M.pure r
  | .cond c a b => (branch (opd tm c)).bind fun t => match t with
    | true => rec fn rnd a tm
    | false => rec fn rnd b tm
  | .block id c => match chookAt E.bhooks fn id (.block id c) with
    | some act => act tm
    | none => (rec fn rnd c tm).bind fun r => match r.1 with
      | .exit j => match j.beq id with
        | true => M.pure (.normal, r.2)
        | false => M.pure r
      | _ => M.pure r
  | .loop c => (rec fn rnd c tm).bind fun r => match r.1 with
    | .normal => rec fn rnd (.loop c) r.2
    | _ => M.pure r
  | .rangeFunc f ps assign body => match opd tm f with
    | .fn g first cap => match g with
      | .func g => match (E.funcs.find g).f.beq g with
        | true => (match rnd with
            | none => M.pure ()
            | some l0 => (getB l0).bind (loopK fun _ => M.pure ())).bind fun _ =>
          (newB (.loop { state := .ready, pending := none, fn, tmps := tm, params := ps.toList, assign, body })).bind fun id =>
          (callF E rec g (first ++ [AVal.fn (.yield id) [] []] ++ cap)).bind fun _ => rangeK id tm
        | false => fail "range over a function"
      | _ => fail "range over a function"
    | _ => fail "range over a function"
  | .exit id => M.pure (.exit id, tm)
  | .scope c => rec fn rnd c tm
  | .ret => M.pure (.ret, tm)
  | _ => fail "code"
noncomputable def evalC : Nat → Rec
  | 0 => fun _ _ _ _ => fail "fuel"
  | n + 1 => step E (evalC n)
def Res.isTrue : Res AVal → Bool
  | .ok (.bool true) s => s.obs.all id
  | .ok (.blit true) s => s.obs.all id
  | _ => false
end Go.Am
