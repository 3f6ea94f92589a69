/- The abstract machine. -/
import Derived.Test.YtlgebaofkolkoaaAmR
import Derived.RangeFuncLeaves
import Derived.TacticsIn
set_option linter.unusedSimpArgs false
set_option linter.unusedVariables false
namespace Go.Am
open Go
def dT : a9 → Bool
  | .junk => true
  | _ => false
structure TI where
  desc : TypeDesc
  size : Nat
  bytes : Nat
  zero : a9
structure TOk (P : Program) (t : Nat) (i : TI) : Prop where
  info : ∃ j z, P.info? t = some j ∧ j.size = i.size ∧ j.bytes = i.bytes ∧ j.zero = some z ∧ ofValue z = i.zero
  zsize : i.zero.cells.length = i.size
  zj : dT i.zero = false
  und : P.underlying t = some i.desc
structure TE (P : Program) where
  t : Nat
  i : TI
  ok : TOk P t i
structure FI where
  body : Code
  ntmps : Nat
  results : List ResultVar
  aT : Option (List Bool) := none
structure FOk (P : Program) (f : Nat) (i : FI) : Prop where
  fn : ∃ fn, P.funcs[f]? = some fn ∧ fn.body = some i.body ∧ fn.ntmps = i.ntmps ∧ fn.results.toList = i.results
  call : ∀ args w, (callFunc f args).run P w = .ok (.enter f args) w
structure FE (P : Program) where
  f : Nat
  i : FI
  ok : FOk P f i
inductive BT (α : Type) where
  | leaf (a : α)
  | node (m : Nat) (l r : BT α)
def BT.find {α : Type} : BT α → Nat → α
  | .leaf a, _ => a
  | .node m l r, n => match n.blt m with
    | true => l.find n
    | false => r.find n
structure sW (P : Program) where
  f : Nat
  act : List a9 → M a9
  ok : kH P f act
structure QE (P : Program) where
  t : Nat
  held : P.stoodInHeld t = false
  guard : P.eqGuardType P.depth t = false
abbrev Fw (o : Option Nat) : Fence := { Fence.wide with round := o }
def Mem.with (m : Mem) (D : List Nat) : Mem := fun b => if b ∈ D then some (.deferred (some [])) else m b
abbrev mk (r : Nat) : Deferred := { target := .collected r, args := #[] }
structure Marks (m : Mem) (D : List Nat) : Prop where
  nodup : D.Nodup
  none : ∀ r ∈ D, m r = none
inductive fQ where
  | normal | ret
  | exit (id : Nat)
inductive RX : fQ → Exit → Prop
  | normal : RX .normal .normal
  | ret : RX .ret .ret
  | exit (id : Nat) : RX (.exit id) (.exit id)
inductive RN (ρ : Ren) : Option Nat → Option Nat → Prop
  | none : RN ρ none none
  | some (id : Nat) (r : RB) (h : ρ id = some r) : RN ρ (some id) (some r.b)
structure lV (P : Program) (ρ : Ren) (m : Mem) (s : St) (w : World) (o : Option Nat) (a : Act) (e : fQ) (tm' : List a9) (s' : St) (e' : Exit) (a' : Act) (w' : World) (ρ' : Ren) (D : List Nat) : Prop where
  post : eJ P ρ m s w ρ' (m.with D) s' w'
  tmps : RL ρ' (m.with D) tm' a'.tmps
  ex : RX e e'
  defers : a'.defers = D.map mk ++ a.defers
  marks : Marks m D
  inRound : o ≠ none → D = []
def rZ (P : Program) (rnd : Option Nat) (c : Code) (act : List a9 → M (fQ × List a9)) : Prop :=
  ∀ tm e tm' s s', (act tm).run s = .ok (e, tm') s' → bU s' → ∀ ρ m w a o n (Q : Exit → Act → World → Prop), Rel P ρ m s.heap.get w → eK ρ s s' → RL ρ m tm a.tmps → RN ρ rnd o →
    (∀ e' a' w' ρ' D, lV P ρ m s w o a e tm' s' e' a' w' ρ' D → Q e' a' w') → c.wpIn (Fw o) n P Q a w
structure pT (P : Program) where
  fn : Nat
  id : Nat
  c : Code
  act : List a9 → M (fQ × List a9)
  ok : ∀ rnd, rZ P rnd c act
open Classical in
noncomputable def fV {P : Program} : List (pT P) → FuncId → Nat → Code → Option (List a9 → M (fQ × List a9))
  | [], _, _, _ => none
  | h :: l, fn, id, c => match h.fn.beq fn && h.id.beq id with
    | true => if h.c = c then some h.act else fV l fn id c
    | false => fV l fn id c
def bQ {P : Program} (l : List (pT P)) (fn : FuncId) (id : Nat) : Bool := l.all fun h => !(h.fn.beq fn && h.id.beq id)
theorem qF {P : Program} : ∀ {l : List (pT P)} {fn : FuncId} {id : Nat} {c : Code}, bQ l fn id = true → fV l fn id c = none
  | [], _, _, _, _ => rfl
  | h :: l, fn, id, c, q => by
    simp only [bQ, List.all_cons, Bool.and_eq_true] at q
    unfold fV
    cases e : h.fn.beq fn && h.id.beq id with
    | true => rw [e] at q; cases q.1
    | false => exact qF q.2
theorem rR {P : Program} : ∀ {l : List (pT P)} {fn : FuncId} {id : Nat} {c : Code} {act : List a9 → M (fQ × List a9)}, fV l fn id c = some act → ∀ rnd, rZ P rnd c act
  | h :: l, fn, id, c, act, q, rnd => by
    unfold fV at q
    split at q
    · split at q
      · rename_i e
        injection q with q
        rw [← q, ← e]; exact h.ok rnd
      · exact rR q rnd
    · exact rR q rnd
structure Env where
  P : Program
  mixed : P.follows .mixedOrders = true
  types : BT (TE P)
  funcs : BT (FE P)
  hooks : List (sW P)
  eqs : List (QE P)
  rhooks : List (pT P) := []
  bhooks : List (pT P) := []
variable (E : Env)
def ti (t : TypeId) : M TI :=
  match (E.types.find t).t.beq t with
  | true => M.pure (E.types.find t).i
  | false => fail "no such type"
def und (t : TypeId) : M TypeDesc := (ti E t).bind fun i => M.pure i.desc
def sizeOf (t : TypeId) : M Nat := (ti E t).bind fun i => M.pure i.size
def zeroOf (t : TypeId) : M a9 := (ti E t).bind fun i => M.pure i.zero
def eD : TypeDesc → Bool
  | .struct _ => true
  | .array _ _ => true
  | _ => false
def cO {α : Type} (k : bM → TypeId → M α) : Blk → M α
  | .row c t => k c t
  | _ => fail "row expected"
def bF (v : a9) (n : Nat) : M (List a9) :=
  match v with
  | .ptr id off => (fI id).bind (cO fun c _ => (ob ((off + n).ble c.size)).bind fun _ => M.pure (c.sub off n))
  | .ip f m off => (ob ((off + n).ble m)).bind fun _ => M.pure (cellsOf f off n)
  | _ => fail "address expected"
def oneOf : List a9 → M a9
  | [v] => M.pure v
  | _ => fail "one cell expected"
def load (t : TypeId) (a : a9) : M a9 :=
  (ti E t).bind fun i => match eD i.desc with
    | true => (bF a i.size).bind fun cs => M.pure (.agg cs)
    | false => (bF a 1).bind oneOf
def jZ (c : bM) (off : Nat) : List a9 → bM
  | [] => c
  | v :: l => jZ (c.set off v) (off + 1) l
def bJ : a9 → Bool
  | .agg _ => false
  | .tup _ => false
  | .junk => false
  | _ => true
def dN (a : a9) (vs : List a9) : M Unit :=
  match a with
  | .ptr id off => (fI id).bind (cO fun c t => (ob ((off + vs.length).ble c.size)).bind fun _ =>
      match vs.all bJ with
      | true => jF id (.row (jZ c off vs) t)
      | false => fail "a value of more cells than one")
  | _ => fail "an address that may be written expected"
def store (t : TypeId) (a v : a9) : M Unit :=
  (ti E t).bind fun i => match v.cells.length.beq i.size with
    | true => dN a v.cells
    | false => fail "store: size"
def newRow (t : TypeId) (cs : List a9) : M Nat := (ti E t).bind fun _ => qB (.row (.l cs) t)
def alloc (t : TypeId) (v : a9) : M a9 := match dT v with
  | true => fail "box: unknown value"
  | false => (newRow E t v.cells).bind fun id => M.pure (.ptr id 0)
def fill (place : Nat → Option (Nat × Nat)) (cells : List a9) : List (Nat × a9) → Option (List a9)
  | [] => some cells
  | (i, v) :: rest => match place i with
    | none => none
    | some (off, size) => match (dT v).not && v.cells.length.beq size && (off + v.cells.length).ble cells.length with
      | true => fill place (cells.take off ++ v.cells ++ cells.drop (off + v.cells.length)) rest
      | false => none
def tY : List Field → M (List (Nat × Nat))
  | [] => M.pure []
  | f :: l => (sizeOf E f.type).bind fun n => (tY l).bind fun r => M.pure ((f.offset, n) :: r)
def aV {α : Type} (why : String) : Option α → M α
  | some a => M.pure a
  | none => fail why
def build (t : TypeId) (parts : List (Nat × a9)) : M a9 :=
  (ti E t).bind fun i => match i.desc with
    | .struct fs => (tY E fs.toList).bind fun ps => (aV "build" (fill (ps[·]?) i.zero.cells parts)).bind fun cs => M.pure (.agg cs)
    | .array _ e => (sizeOf E e).bind fun n => (aV "build" (fill (fun i => some (i * n, n)) i.zero.cells parts)).bind fun cs => M.pure (.agg cs)
    | _ => fail "build: type"
def fF (z : List a9) : Nat → List a9
  | 0 => []
  | n + 1 => z ++ fF z n
def buildSlice (t : TypeId) (len : Nat) (parts : List (Nat × a9)) : M a9 :=
  (und E t).bind fun d => match d with
    | .slice e => (ti E e).bind fun i => match (len * i.size).ble 16777216 with
      | true => (aV "buildSlice" (fill (fun k => some (k * i.size, i.size)) (fF i.zero.cells len) parts)).bind fun cs =>
          (newRow E e cs).bind fun id => M.pure (.sl id 0 len (some len) i.size)
      | false => fail "buildSlice: too long"
    | _ => fail "buildSlice: type"
def aO (n : Nat) : a9 → M a9
  | .ptr id off => M.pure (.ptr id (off + n))
  | .ip g m off => M.pure (.ip g m (off + n))
  | _ => fail "address expected"
def fieldAddr (t : TypeId) (a : a9) (i : Nat) : M a9 :=
  (und E t).bind fun d => match d with
    | .struct fs => (aV "no such field" fs.toList[i]?).bind fun f => (sizeOf E f.type).bind fun n => match n.beq 0 with
      | true => fail "a field of size 0"
      | false => aO f.offset a
    | _ => fail "fieldAddr: struct expected"
def idx (i : Int) (len : Nat) : M Nat := (ob (decide (0 ≤ i ∧ i < (len : Int)))).bind fun _ => M.pure i.toNat
def cP {α : Type} (k : Int → M α) : a9 → M α
  | .int _ n => k n
  | _ => fail "int expected"
def slK {α : Type} (k : Nat → Nat → Nat → Option Nat → Nat → M α) (k2 : (Nat → a9) → Nat → Nat → Nat → M α) : a9 → M α
  | .sl id off len cap sz => k id off len cap sz
  | .isl g sz off len => k2 g sz off len
  | _ => fail "slice expected"
def indexAddr (t : TypeId) (x i : a9) : M a9 :=
  (und E t).bind fun d => cP (fun i => match d with
    | .array len e => (sizeOf E e).bind fun n => (idx i len).bind fun j => aO (j * n) x
    | .slice e => (sizeOf E e).bind fun n =>
      slK (fun id off len _ sz => match n.beq sz with
          | true => (idx i len).bind fun j => M.pure (.ptr id (off + j * n))
          | false => fail "indexAddr: size")
        (fun g sz off len => match n.beq sz with
          | true => (idx i len).bind fun j => M.pure (.ip g (off + len * sz) (off + j * n))
          | false => fail "indexAddr: size") x
    | _ => fail "indexAddr") i
def part (t : TypeId) (cs : List a9) (off : Nat) : M a9 :=
  (ti E t).bind fun i => match eD i.desc with
    | true => M.pure (.agg ((cs.drop off).take i.size))
    | false => aV "part" cs[off]?
def dQ {α : Type} (k : List a9 → M α) : a9 → M α
  | .agg l => k l
  | _ => fail "struct or array expected"
def dH {α : Type} (k : List UInt8 → M α) : a9 → M α
  | .str l => k l
  | _ => fail "string expected"
def field (t : TypeId) (x : a9) (i : Nat) : M a9 :=
  (und E t).bind fun d => match d with
    | .struct fs => dQ (fun cs => (aV "no such field" fs.toList[i]?).bind fun f => part E f.type cs f.offset) x
    | _ => fail "field"
def DL (s : List UInt8) (j : Nat) : UInt8 := s.getD j 0
def index (t : TypeId) (x i : a9) : M a9 :=
  (und E t).bind fun d => cP (fun i => match d with
    | .array len e => dQ (fun cs => (idx i len).bind fun j => (sizeOf E e).bind fun n => part E e cs (j * n)) x
    | .string => dH (fun s => (idx i s.length).bind fun j => M.pure (.int .u8 (DL s j).toNat)) x
    | _ => fail "index") i
def bound (v : Option a9) (dflt : Nat) (most : Nat) : M Nat :=
  match v with
  | none => M.pure dflt
  | some v => cP (fun i => (ob (decide (0 ≤ i ∧ i ≤ (most : Int)))).bind fun _ => M.pure i.toNat) v
def bN {α : Type} (n sz : Nat) (k : M α) : M α := match n.beq sz with
  | true => k
  | false => fail "slice: size"
def k9 (id off len n : Nat) (hi : Option a9) : M Nat :=
  match hi with
  | some (.int _ i) => match decide (i ≤ (len : Int)) with
    | true => M.pure len
    | false => (fI id).bind (cO fun c _ => M.pure (max len ((c.size - off) / n)))
  | _ => M.pure len
def slice (t : TypeId) (x : a9) (lo hi mx : Option a9) : M a9 :=
  (und E t).bind fun d => match d with
    | .string => match mx with
      | none => dH (fun s => (bound hi s.length s.length).bind fun h => (bound lo 0 h).bind fun l => M.pure (.str ((s.take h).drop l))) x
      | some _ => fail "slice"
    | .slice e => (sizeOf E e).bind fun n => match mx with
      | none => match x with
        | .nils => (bound hi 0 0).bind fun h => (bound lo 0 h).bind fun _ => M.pure .nils
        | .emp => (bound hi 0 0).bind fun h => (bound lo 0 h).bind fun _ => M.pure .emp
        | .isl g sz off len => bN n sz ((bound hi len len).bind fun h => (bound lo 0 h).bind fun l => M.pure (.isl g sz (off + l * n) (h - l)))
        | .sl id off len cap sz => bN n sz (match cap with
          | some c => (bound hi len c).bind fun h => (bound lo 0 h).bind fun l => M.pure (.sl id (off + l * n) (h - l) (some (c - l)) sz)
          | none => (k9 id off len n hi).bind fun most => (bound hi len most).bind fun h => (bound lo 0 h).bind fun l => M.pure (.sl id (off + l * n) (h - l) none sz))
        | _ => fail "slice"
      | some mx => match hi with
       | none => fail "slice"
       | some _ => match x with
        | .nils => (bound (some mx) 0 0).bind fun m => (bound hi 0 m).bind fun h => (bound lo 0 h).bind fun _ => M.pure .nils
        | .emp => (bound (some mx) 0 0).bind fun m => (bound hi 0 m).bind fun h => (bound lo 0 h).bind fun _ => M.pure .emp
        | .isl _ sz _ len => bN n sz ((bound (some mx) 0 0).bind fun m => (bound hi len m).bind fun h => (bound lo 0 h).bind fun _ => M.pure .emp)
        | .sl id off len cap sz => bN n sz ((bound (some mx) 0 (cap.getD len)).bind fun m => (bound hi len m).bind fun h => (bound lo 0 h).bind fun l =>
            M.pure (.sl id (off + l * n) (h - l) (some (m - l)) sz))
        | _ => fail "slice"
    | .array len e => (sizeOf E e).bind fun n => match mx with
      | none => (bound hi len len).bind fun h => (bound lo 0 h).bind fun l => match x with
        | .ptr id off => M.pure (.sl id (off + l * n) (h - l) (some (len - l)) n)
        | .ip g m off => (ob ((off + len * n).ble m)).bind fun _ => M.pure (.isl g n (off + l * n) (h - l))
        | _ => fail "slice"
      | some _ => fail "slice"
    | _ => fail "slice: type"
def lenOf : a9 → M Nat
  | .nils => M.pure 0
  | .emp => M.pure 0
  | .sl _ _ n _ _ => M.pure n
  | .isl _ _ _ n => M.pure n
  | .str s => M.pure s.length
  | _ => fail "len"
def byteCells : List UInt8 → List a9
  | [] => []
  | b :: l => .int .u8 b.toNat :: byteCells l
def dO (sz n : Nat) : a9 → M (List a9)
  | .nils => (ob (n.beq 0)).bind fun _ => M.pure []
  | .emp => (ob (n.beq 0)).bind fun _ => M.pure []
  | .sl id off len _ s => bN s sz ((fI id).bind (cO fun c _ => (ob (n.ble len)).bind fun _ => (ob ((off + n * sz).ble c.size)).bind fun _ => M.pure (c.sub off (n * sz))))
  | .isl g s off len => bN s sz ((ob (n.ble len)).bind fun _ => M.pure (cellsOf g off (n * sz)))
  | .str s => bN sz 1 ((ob (n.ble s.length)).bind fun _ => M.pure (byteCells (s.take n)))
  | _ => fail "slice or string expected"
def room : Nat := 281474976710656
def grown (e : TypeId) (i : TI) (need : Nat) (cs : List a9) : M a9 :=
  (ob ((2 * need * i.bytes).ble room && need.ble room)).bind fun _ => (qB (.row (.l cs) e)).bind fun id => M.pure (.sl id 0 need none i.size)
def append (t : TypeId) (s x : a9) : M a9 :=
  (und E t).bind fun d => match d with
    | .slice e => (ti E e).bind fun i => (lenOf x).bind fun n => (ask (n.beq 0)).bind fun nothing => match nothing with
      | true => match s with
        | .nils => M.pure s
        | .emp => M.pure s
        | .sl _ _ _ _ _ => M.pure s
        | .isl _ _ _ _ => M.pure s
        | _ => fail "append: slice expected"
      | false => (dO i.size n x).bind fun xs => match s with
        | .nils => grown e i n xs
        | .emp => grown e i n xs
        | .sl id off len cap sz => bN sz i.size ((fI id).bind (cO fun c t' => match cap with
          | some m => (ask ((len + n).ble m)).bind fun fits => match fits with
            | true => (dN (.ptr id (off + len * i.size)) xs).bind fun _ => M.pure (.sl id off (len + n) (some m) sz)
            | false => (dO i.size len s).bind fun ys => grown e i (len + n) (ys ++ xs)
          | none => (ask ((off + (len + n) * i.size).ble c.size)).bind fun fits => match fits with
            | true => (ob (Nat.blt 0 i.size)).bind fun _ => (dN (.ptr id (off + len * i.size)) xs).bind fun _ => M.pure (.sl id off (len + n) none sz)
            | false => match off.beq 0 && t'.beq e && xs.all bJ with
              | true => (dO i.size len s).bind fun ys => (kill id).bind fun _ => grown e i (len + n) (ys ++ xs)
              | false => fail "append: a slice that begins within its block"))
        | _ => fail "append: slice expected"
    | _ => fail "append: type"
def uH (t : TypeId) (s : a9) (k : Int) : M a9 :=
  (und E t).bind fun d => match d with
    | .slice e => (ti E e).bind fun i => match s with
      | .sl id off len cap sz => match cap with
        | some m => bN sz i.size ((ob (decide (0 < k ∧ m < len + k.toNat ∧ 0 < i.size ∧ i.zero.cells.all bJ = true))).bind fun _ =>
            (dO i.size len (.sl id off len (some m) sz)).bind fun ys => grown e i (len + k.toNat) (ys ++ fF i.zero.cells k.toNat))
        | none => fail "append of a make"
      | _ => fail "append of a make"
    | _ => fail "append: type"
def copy (t : TypeId) (dst src : a9) : M a9 :=
  (und E t).bind fun d => match d with
    | .slice e => (lenOf src).bind fun n1 => (lenOf dst).bind fun n2 => (sizeOf E e).bind fun sz => (ask ((min n1 n2).beq 0)).bind fun nothing => match nothing with
      | true => match dst with
        | .str _ => fail "copy"
        | _ => M.pure (.int .i64 0)
      | false => (dO sz (min n1 n2) src).bind fun cs => match dst with
        | .sl id off _ _ s => bN s sz ((dN (.ptr id off) cs).bind fun _ => M.pure (.int .i64 (min n1 n2 : Nat)))
        | _ => fail "copy"
    | _ => fail "copy: type"
def makeSlice (t : TypeId) (l c : a9) : M a9 :=
  (und E t).bind fun d => match d with
    | .slice e => (ti E e).bind fun i => cP (fun l => cP (fun c =>
        (ob (decide (0 ≤ l ∧ l ≤ c ∧ c ≤ 9223372036854775807 ∧ (i.bytes : Int) * c ≤ 281474976710656))).bind fun _ =>
        (newRow E e (fF i.zero.cells c.toNat)).bind fun id => M.pure (.sl id 0 l.toNat (some c.toNat) i.size)) c) l
    | _ => fail "makeSlice"
def bR (k : IntKind) (n : Int) : a9 := .int k (k.wrap n)
def intOp (op : BinOp) (k : IntKind) (a b : Int) : M a9 :=
  match op with
  | .add => M.pure (bR k (a + b))
  | .sub => M.pure (bR k (a - b))
  | .mul => M.pure (bR k (a * b))
  | .quo => (ob (decide (b ≠ 0))).bind fun _ => M.pure (bR k (a.tdiv b))
  | .rem => (ob (decide (b ≠ 0))).bind fun _ => M.pure (.int k (a.tmod b))
  | .and => M.pure (bR k (BitVec.ofInt k.bits a &&& BitVec.ofInt k.bits b).toNat)
  | .or => M.pure (bR k (BitVec.ofInt k.bits a ||| BitVec.ofInt k.bits b).toNat)
  | .xor => M.pure (bR k (BitVec.ofInt k.bits a ^^^ BitVec.ofInt k.bits b).toNat)
  | .andNot => M.pure (bR k (BitVec.ofInt k.bits a &&& ~~~ BitVec.ofInt k.bits b).toNat)
  | .shl => fail "intOp"
  | .shr => fail "intOp"
  | .eql => M.pure (.bool (a == b))
  | .neq => M.pure (.bool (a != b))
  | .lss => M.pure (.bool (decide (a < b)))
  | .leq => M.pure (.bool (decide (a ≤ b)))
  | .gtr => M.pure (.bool (decide (a > b)))
  | .geq => M.pure (.bool (decide (a ≥ b)))
def strOp (op : BinOp) (x y : List UInt8) : M a9 :=
  match op with
  | .add => (ob (decide (((x.length + y.length : Nat) : Int) ≤ 9223372036854775807))).bind fun _ => M.pure (.str (x ++ y))
  | .eql => M.pure (.bool (x == y))
  | .neq => M.pure (.bool (!(x == y)))
  | .lss => M.pure (.bool (Op.bytesLess x y))
  | .leq => M.pure (.bool (Op.bytesLess x y || x == y))
  | .gtr => M.pure (.bool (!(Op.bytesLess x y || x == y)))
  | .geq => M.pure (.bool (!(Op.bytesLess x y)))
  | _ => fail "strOp"
def allM {α : Type} (f : α → M Bool) : List α → M Bool
  | [] => M.pure true
  | x :: l => (f x).bind fun a => (allM f l).bind fun b => M.pure (a && b)
def cE : a9 → M Bool
  | .bool b => M.pure b
  | .blit b => M.pure b
  | _ => fail "bool expected"
def cD : a9 → M Bool
  | .nilp => M.pure true
  | .ptr _ _ => M.pure false
  | .ip _ _ _ => M.pure false
  | _ => fail "pointer expected"
def cR : a9 → M Bool
  | .nilf => M.pure true
  | .fn _ _ _ => M.pure false
  | _ => fail "function expected"
def nU : a9 → M Bool
  | .nils => M.pure true
  | .sl _ _ _ _ _ => M.pure false
  | .isl _ _ _ _ => M.pure false
  | _ => fail "slice expected"
def zA : a9 → M Bool
  | .nilm => M.pure true
  | .map _ => M.pure false
  | _ => fail "map expected"
def xA (l : List (QE E.P)) (t : Nat) : Bool :=
  match l with
  | [] => false
  | q :: l => q.t.beq t || xA l t
def equal : (depth : Nat) → TypeId → a9 → a9 → M Bool
  | 0, _, _, _ => fail "equal: depth"
  | d + 1, t, x, y => (und E t).bind fun u => match u with
    | .bool => (cE x).bind fun a => (cE y).bind fun b => M.pure (a == b)
    | .int _ => match x with
      | .int k a => match y with
        | .int k' b => match decide (k = k') with
          | true => M.pure (a == b)
          | false => fail "equal: kinds"
        | _ => fail "equal"
      | _ => fail "equal"
    | .string => dH (fun a => dH (fun b => M.pure (a == b)) y) x
    | .pointer _ => (cD x).bind fun a => (cD y).bind fun b => match a || b with
      | true => M.pure (a && b)
      | false => fail "equal: pointers"
    | .func _ _ _ => (cR x).bind fun a => (cR y).bind fun b => match a || b with
      | true => M.pure (a && b)
      | false => fail "equal: functions"
    | .slice _ => (nU x).bind fun a => (nU y).bind fun b => match a || b with
      | true => M.pure (a && b)
      | false => fail "equal: slices"
    | .map _ _ => (zA x).bind fun a => (zA y).bind fun b => match a || b with
      | true => M.pure (a && b)
      | false => fail "equal: maps"
    | .struct fs => match xA E E.eqs t with
      | true => dQ (fun xs => dQ (fun ys => allM (fun (f : Field) => match decide (f.name = "_") with
          | true => M.pure true
          | false => (part E f.type xs f.offset).bind fun a => (part E f.type ys f.offset).bind fun b => equal d f.type a b) fs.toList) y) x
      | false => fail "equal: struct"
    | .array len e => match xA E E.eqs t with
      | true => dQ (fun xs => dQ (fun ys => (sizeOf E e).bind fun n => allM (fun i => (part E e xs (i * n)).bind fun a => (part E e ys (i * n)).bind fun b => equal d e a b) (List.range len)) y) x
      | false => fail "equal: array"
    | _ => fail "equal: type"
def bG (t : TypeId) (x y : a9) : M Bool := equal E 100 t x y
def cJ (op : BinOp) (k : IntKind) (a b : Int) : M a9 :=
  (ob (decide (0 ≤ b))).bind fun _ => match op with
    | .shl => M.pure (bR k (a * 2 ^ (min b.toNat k.bits)))
    | .shr => M.pure (.int k (a.fdiv (2 ^ (min b.toNat k.bits))))
    | _ => fail "shift"
def aK : BinOp → Bool
  | .shl => true
  | .shr => true
  | _ => false
def aY (op : BinOp) (t : TypeId) (x y : a9) : M a9 :=
  match op with
  | .eql => (bG E t x y).bind fun b => M.pure (.bool b)
  | .neq => (bG E t x y).bind fun b => M.pure (.bool (!b))
  | _ => fail "binOp"
def aJ (op : BinOp) (k : IntKind) (a : Int) : a9 → M a9
  | .int k' b => match aK op with
    | true => cJ op k a b
    | false => match decide (k = k') with
      | true => intOp op k a b
      | false => fail "binOp: kinds"
  | _ => fail "binOp"
def binOp (op : BinOp) (t : TypeId) (x y : a9) : M a9 :=
  match x with
  | .int k a => aJ op k a y
  | .str a => dH (fun b => strOp op a b) y
  | x => aY E op t x y
def unOp (op : UnOp) (x : a9) : M a9 :=
  match op with
  | .neg => match x with
    | .int k n => M.pure (bR k (0 - n))
    | _ => fail "unOp"
  | .xor => match x with
    | .int k n => intOp .xor k (if k.signed then -1 else k.max) n
    | _ => fail "unOp"
  | .not => match x with
    | .bool b => M.pure (.bool (!b))
    | .blit b => M.pure (.blit (!b))
    | _ => fail "unOp"
  | .plus => fail "unOp"
def isByte : a9 → Bool
  | .int .u8 _ => true
  | _ => false
def toByte : a9 → UInt8
  | .int _ n => UInt8.ofNat n.toNat
  | _ => 0
def qD : TypeDesc → Bool
  | .int .u8 => true
  | _ => false
def gX (e : TypeId) (x : a9) : M a9 :=
  (und E e).bind fun u => match qD u with
    | true => (lenOf x).bind fun n => (dO 1 n x).bind fun cs => (ob (cs.all isByte)).bind fun _ => M.pure (.str (cs.map toByte))
    | false => fail "convert: slice"
def uL (id : Nat) : M Unit := (fI id).bind fun b => jF id b
def convert (src dst : TypeId) (x : a9) : M a9 :=
  (und E src).bind fun s => (und E dst).bind fun d => match d with
    | .int k => cP (fun n => M.pure (bR k n)) x
    | .string => match s with
      | .string => dH (fun l => M.pure (.str l)) x
      | .slice e => match x with
        | .str _ => fail "convert"
        | x => gX E e x
      | _ => fail "convert"
    | .slice e => (und E e).bind fun u => match qD u with
      | true => match s with
        | .string => dH (fun l => (sizeOf E e).bind fun n => bN n 1 ((newRow E e (byteCells l)).bind fun id => M.pure (.sl id 0 l.length none 1))) x
        | .slice _ => match src.beq dst with
          | true => match x with
            | .sl id off len cap sz => (fI id).bind (cO fun c t => (ob ((match cap with | some k => Nat.blt 0 k | none => off.blt c.size) && t.beq e)).bind fun _ => (uL id).bind fun _ => M.pure (.sl id off len cap sz))
            | _ => fail "convert"
          | false => fail "convert"
        | _ => fail "convert"
      | false => fail "convert"
    | _ => fail "convert"
def extract (x : a9) (i : Nat) : M a9 :=
  match x with
  | .tup l => aV "extract" l[i]?
  | _ => fail "extract: tuple expected"
def min2 (x y : a9) : M a9 :=
  match x with
  | .int k a => cP (fun b => M.pure (.int k (if b < a then b else a))) y
  | _ => fail "min"
def max2 (x y : a9) : M a9 :=
  match x with
  | .int k a => cP (fun b => M.pure (.int k (if a < b then b else a))) y
  | _ => fail "max"
def cW (f : a9 → a9 → M a9) (x : a9) : List a9 → M a9
  | [] => M.pure x
  | y :: l => (f x y).bind fun z => cW f z l
def range (t : TypeId) (x : a9) : M a9 :=
  (und E t).bind fun d => match d with
    | .string => dH (fun s => (qB (.siter s 0)).bind fun id => M.pure (.ptr id 0)) x
    | .map _ _ => match x with
      | .map id => (fI id).bind fun b => match b with
        | .map _ ck => (qB (.miter id ck [] ck)).bind fun it => M.pure (.ptr it 0)
        | _ => fail "range"
      | _ => fail "range"
    | _ => fail "range"
def OT (id : Nat) : Blk → M a9
  | .siter s pos => (ask (pos.blt s.length)).bind fun more => match more with
    | true => (jF id (.siter s (pos + (Utf8.decode ⟨⟨s⟩⟩ pos).2))).bind fun _ => M.pure (.tup [.blit true, .int .i64 pos, .int .i32 (Utf8.decode ⟨⟨s⟩⟩ pos).1])
    | false => M.pure (.tup [.blit false])
  | _ => fail "next"
def next (x : a9) : M a9 :=
  match x with
  | .ptr id off => match off.beq 0 with
    | true => (fI id).bind (OT id)
    | false => fail "next"
  | _ => fail "next"
def opd (tm : List a9) : Operand → a9
  | .tmp t => nth tm t undef
  | .const v => ofValue v
  | .global _ => .junk
  | .func f => .fn (.func f) [] []
def bC (tm : List a9) : List Operand → List a9
  | [] => []
  | x :: l => opd tm x :: bC tm l
abbrev Rec := FuncId → Option Nat → Code → List a9 → M (fQ × List a9)
variable (rec : Rec)
def aP (tm : List a9) : List ResultVar → M (List a9)
  | [] => M.pure []
  | r :: l => match r with
    | .tmp t => (aP tm l).bind fun r => M.pure (nth tm t undef :: r)
    | .cell a t => (load E t (nth tm a undef)).bind fun v => (aP tm l).bind fun r => M.pure (v :: r)
def aQ : List a9 → a9
  | [v] => v
  | l => .tup l
def ended (tm : List a9) (rs : List ResultVar) : M a9 := (aP E tm rs).bind fun r => M.pure (aQ r)
def aZ (f : FuncId) (args : List a9) : M a9 :=
  match (E.funcs.find f).f.beq f with
  | true => (rec f none (E.funcs.find f).i.body (args ++ List.replicate ((E.funcs.find f).i.ntmps - args.length) undef)).bind fun r => match r.1 with
    | .exit _ => fail "left by an exit"
    | .normal => ended E r.2 (E.funcs.find f).i.results
    | .ret => ended E r.2 (E.funcs.find f).i.results
  | false => fail "no such function"
def sO (l : List (sW E.P)) (f : FuncId) (args : List a9) (k : M a9) : M a9 :=
  match l with
  | [] => k
  | h :: l => match h.f.beq f with
    | true => h.act args
    | false => sO l f args k
def bT (f : FuncId) (args : List a9) : M a9 := sO E E.hooks f args (aZ E rec f args)
def dM {α : Type} (k : lN → M α) : Blk → M α
  | .loop l => k l
  | _ => fail "loop expected"
def lW (tm : List a9) : List (Tmp × a9) → List a9
  | [] => tm
  | (t, v) :: l => lW (put tm t v) l
def sJ : fQ → Option Code
  | .normal => none
  | .ret => some .ret
  | .exit id => some (.exit id)
def tB : fQ → Bool
  | .normal => true
  | _ => false
def qK (id : Nat) (args : List a9) : M a9 :=
  (fI id).bind (dM fun l => match args.length.beq l.params.length with
    | false => fail "yield: arguments"
    | true => match l.state with
      | .ready => (rec l.fn (some id) l.assign (lW l.tmps (l.params.zip args))).bind fun r => match r.1 with
        | .normal => (fI id).bind (dM fun l2 => match l2.state with
          | .ready => (jF id (.loop { l2 with state := .busy })).bind fun _ => (rec l.fn (some id) l.body r.2).bind fun r2 =>
              (fI id).bind (dM fun l3 => (jF id (.loop { l3 with state := (match tB r2.1 with | true => .ready | false => .done), pending := sJ r2.1 })).bind fun _ =>
                M.pure (.blit (tB r2.1)))
          | _ => fail "yield: not ready")
        | _ => fail "assign"
      | _ => fail "yield: not ready")
def jA (f : a9) (args : List a9) : M a9 :=
  match f with
  | .fn g first cap => match g with
    | .func g => bT E rec g (first ++ args ++ cap)
    | .yield id => match first with
      | [] => qK rec id args
      | _ => fail "call"
    | _ => fail "call"
  | _ => fail "call"
def cI (ts : List TypeId) (x : a9) : M a9 :=
  match ts with
  | t :: _ => (und E t).bind fun d => match d with
    | .array n _ => M.pure (.int .i64 n)
    | .pointer a => (und E a).bind fun d => match d with
      | .array n _ => M.pure (.int .i64 n)
      | _ => fail "len"
    | .string => dH (fun s => M.pure (.int .i64 s.length)) x
    | .slice _ => match x with
      | .str _ => fail "len"
      | x => (lenOf x).bind fun n => M.pure (.int .i64 n)
    | .map _ _ => match x with
      | .nilm => M.pure (.int .i64 0)
      | .map id => (fI id).bind fun b => match b with
        | .map es _ => M.pure (.int .i64 (es.length : Nat))
        | _ => fail "len"
      | _ => fail "len"
    | _ => fail "len"
  | [] => fail "len"
abbrev Ent := a9 × a9 × Nat
def lX {α : Type} (k : List Ent → Nat → M α) : Blk → M α
  | .map es ck => k es ck
  | _ => fail "map expected"
def pN : a9 → a9 → Bool
  | .int k a, .int j b => decide (k = j) && a == b
  | .str a, .str b => a == b
  | _, _ => false
def tU : List a9 → List a9 → Bool
  | [], [] => true
  | a :: x, b :: y => pN a b && tU x y
  | _, _ => false
def sameKey : a9 → a9 → Bool
  | .agg a, .agg b => tU a b
  | .int k a, .int j b => pN (.int k a) (.int j b)
  | .str a, .str b => pN (.str a) (.str b)
  | _, _ => false
def zZ {α : Type} (f : α → M Unit) : List α → M Unit
  | [] => M.pure ()
  | x :: l => (f x).bind fun _ => zZ f l
def iP : Nat → TypeId → a9 → M Unit
  | 0, _, _ => fail "key: depth"
  | d + 1, t, v => (und E t).bind fun u => match u with
    | .bool => M.pure ()
    | .int _ => M.pure ()
    | .string => M.pure ()
    | .struct fs => dQ (fun xs => zZ (fun (f : Field) => match decide (f.name = "_") with
        | true => M.pure ()
        | false => (part E f.type xs f.offset).bind fun a => iP d f.type a) fs.toList) v
    | .array n e => dQ (fun xs => (sizeOf E e).bind fun z => zZ (fun i => (part E e xs (i * z)).bind fun a => iP d e a) (List.range n)) v
    | _ => fail "key: type"
def mL (t : TypeId) (k : a9) : List Ent → Nat → M (Option (Nat × a9))
  | [], _ => M.pure none
  | e :: es, i => (bG E t k e.1).bind fun b => match b with
    | true => M.pure (some (i, e.2.1))
    | false => mL t k es (i + 1)
def DD : a9 → M (List Ent)
  | .nilm => M.pure []
  | .map id => (fI id).bind (lX fun es _ => M.pure es)
  | _ => fail "map expected"
def okV (ok : Bool) (v : a9) (is : Bool) : a9 := match ok with
  | true => .tup [v, .blit is]
  | false => v
def iS (t : TypeId) (x k : a9) (ok : Bool) : M a9 :=
  (und E t).bind fun d => match d with
    | .map kt et => (DD x).bind fun es => (iP E 100 kt k).bind fun _ => (mL E kt k es 0).bind fun r => match r with
      | some p => M.pure (okV ok p.2 true)
      | none => (zeroOf E et).bind fun z => M.pure (okV ok z false)
    | _ => fail "lookup"
def pW (es : List Ent) (i : Nat) (v : a9) : List Ent := es.modify i fun e => (e.1, v, e.2.2)
def iK (t : TypeId) (x k : a9) : M a9 :=
  (und E t).bind fun d => match d with
    | .map kt et => match x with
      | .map id => (fI id).bind (lX fun es ck => (iP E 100 kt k).bind fun _ => (mL E kt k es 0).bind fun r => match r with
        | some p => (aV "entry" es[p.1]?).bind fun e => match sameKey e.1 k with
          | true => (jF id (.map es ck)).bind fun _ => M.pure (.tup [p.2, .int .i64 e.2.2])
          | false => fail "a key that is not the same bit by bit"
        | none => (zeroOf E et).bind fun z => (jF id (.map (es ++ [(k, z, ck)]) (ck + 1))).bind fun _ => M.pure (.tup [z, .int .i64 ck]))
      | _ => fail "mapEntry"
    | _ => fail "mapEntry"
def qG (n : Int) : List Ent → Nat → Option Nat
  | [], _ => none
  | e :: es, i => match ((e.2.2 : Int) == n) with
    | true => some i
    | false => qG n es (i + 1)
def gE (x st v : a9) : M a9 :=
  match x with
  | .map id => (fI id).bind (lX fun es ck => cP (fun n => (aV "entryStore" (qG n es 0)).bind fun i => (jF id (.map (pW es i v) ck)).bind fun _ => M.pure undef) st)
  | _ => fail "entryStore"
def qC (t : TypeId) (x k v : a9) : M a9 :=
  (und E t).bind fun d => match d with
    | .map kt et => match x with
      | .map id => (fI id).bind (lX fun es ck => (iP E 100 kt k).bind fun _ => (mL E kt k es 0).bind fun r => match r with
        | some p => (aV "entry" es[p.1]?).bind fun e => match sameKey e.1 k with
          | true => (jF id (.map (pW es p.1 v) ck)).bind fun _ => M.pure undef
          | false => fail "a key that is not the same bit by bit"
        | none => (jF id (.map (es ++ [(k, v, ck)]) (ck + 1))).bind fun _ => M.pure undef)
      | _ => fail "mapUpdate"
    | _ => fail "mapUpdate"
def qY (r : Option a9) : M a9 :=
  match r with
  | none => (qB (.map [] 0)).bind fun id => M.pure (.map id)
  | some _ => fail "makeMap"
def DE (x : a9) : M a9 :=
  match x with
  | .ptr id off => match off.beq 0 with
    | true => (fI id).bind fun b => match b with
      | .miter mm _ seen last => (fI mm).bind fun c => match c with
        | .map es ck => match ck.beq last with
          | true => (aV "entry" seen.getLast?).bind fun st => (aV "entry" (es.find? fun e => e.2.2.beq st)).bind fun e => M.pure (.tup [e.1, e.2.1])
          | false => fail "entry"
        | _ => fail "entry"
      | _ => fail "entry"
    | false => fail "entry"
  | _ => fail "entry"
def zV (ts : List TypeId) (x k : a9) : M a9 :=
  match ts with
  | t :: _ => (und E t).bind fun d => match d with
    | .map kt _ => match x with
      | .map id => (fI id).bind (lX fun es ck => (iP E 100 kt k).bind fun _ => (mL E kt k es 0).bind fun r => match r with
        | some p => (jF id (.map (es.eraseIdx p.1) ck)).bind fun _ => M.pure (.tup [])
        | none => (jF id (.map es ck)).bind fun _ => M.pure (.tup []))
      | _ => fail "delete"
    | _ => fail "delete"
  | [] => fail "delete"
def eU : TypeDesc → Bool
  | .int _ => true
  | _ => false
def fG (ts : List TypeId) (s x : a9) : M a9 :=
  match ts with
  | t :: t2 :: _ => (und E t2).bind fun d => match eU d with
    | true => match ts with
      | _ :: _ :: [] => cP (uH E t s) x
      | _ => fail "append of a make"
    | false => append E t s x
  | _ => fail "append"
def eI (ts : List TypeId) (x y : a9) : M a9 :=
  match ts with
  | t :: _ => copy E t x y
  | [] => fail "copy"
def KS : a9 → M Nat
  | .nils => M.pure 0
  | .emp => M.pure 0
  | .sl _ _ _ cap _ => match cap with
    | some c => M.pure c
    | none => fail "cap: not known"
  | _ => fail "cap"
def OI (ts : List TypeId) (x : a9) : M a9 :=
  match ts with
  | t :: _ => (und E t).bind fun d => match d with
    | .slice _ => (KS x).bind fun n => M.pure (.int .i64 n)
    | _ => fail "cap"
  | [] => fail "cap"
def oN (ts : List TypeId) (x : a9) : M a9 :=
  match ts with
  | t :: _ => (und E t).bind fun d => match d with
    | .slice e => match x with
      | .nils => M.pure (.tup [])
      | .emp => M.pure (.tup [])
      | .sl id off len _ sz => (ask (len.beq 0)).bind fun nothing => match nothing with
        | true => M.pure (.tup [])
        | false => (ti E e).bind fun i => bN i.size sz ((dN (.ptr id off) (fF i.zero.cells len)).bind fun _ => M.pure (.tup []))
      | _ => fail "clear"
    | .map _ _ => match x with
      | .nilm => M.pure (.tup [])
      | .map id => (fI id).bind (lX fun _ ck => (jF id (.map [] ck)).bind fun _ => M.pure (.tup []))
      | _ => fail "clear"
    | _ => fail "clear"
  | [] => fail "clear"
def dB (k : a9 → M a9) : List a9 → M a9
  | [x] => k x
  | _ => fail "one argument expected"
def eT (k : a9 → a9 → M a9) : List a9 → M a9
  | [x, y] => k x y
  | _ => fail "two arguments expected"
def eG (k : a9 → List a9 → M a9) : List a9 → M a9
  | x :: l => k x l
  | [] => fail "an argument expected"
def builtin (b : Builtin) (ts : List TypeId) (args : List a9) : M a9 :=
  match b with
  | .len => dB (cI E ts) args
  | .append => eT (fG E ts) args
  | .copy => eT (eI E ts) args
  | .min => eG (cW min2) args
  | .max => eG (cW max2) args
  | .cap => dB (OI E ts) args
  | .clear => dB (oN E ts) args
  | .delete => eT (zV E ts) args
  | _ => fail "builtin"
def dA (tm : List a9) : List (Nat × Operand) → List (Nat × a9)
  | [] => []
  | p :: l => (p.1, opd tm p.2) :: dA tm l
def opt (tm : List a9) : Option Operand → Option a9
  | none => none
  | some x => some (opd tm x)
def aW (t a b : a9) : M a9 := (branch t).bind fun t => match t with
  | true => M.pure a
  | false => M.pure b
def kF (t : TypeId) (a v : a9) : M a9 := (store E t a v).bind fun _ => M.pure undef
def nilCheck (x : a9) : M a9 :=
  match x with
  | .ptr id off => M.pure (.ptr id off)
  | .ip f n off => M.pure (.ip f n off)
  | .fn f a c => match f with
    | .func g => M.pure (.fn (.func g) a c)
    | .yield g => M.pure (.fn (.yield g) a c)
    | _ => fail "nilCheck"
  | _ => fail "nilCheck"
def aI (tm : List a9) (c : Call) : M a9 :=
  match c.callee with
  | .value f => jA E rec (opd tm f) (bC tm c.args.toList)
  | .builtin b => builtin E b c.argTypes.toList (bC tm c.args.toList)
  | .invoke _ _ => fail "invoke"
def cF (t : TypeId) : M a9 := (zeroOf E t).bind fun z => alloc E t z
def execOp (tm : List a9) (o : Op) : M a9 :=
  match o with
  | .move x => M.pure (opd tm x)
  | .assign x => M.pure (opd tm x)
  | .pick c a b => aW (opd tm c) (opd tm a) (opd tm b)
  | .alloc t => cF E t
  | .box t x => alloc E t (opd tm x)
  | .build t ps => build E t (dA tm ps.toList)
  | .buildSlice t n ps => buildSlice E t n (dA tm ps.toList)
  | .load t a => load E t (opd tm a)
  | .store t a x => kF E t (opd tm a) (opd tm x)
  | .nilCheck x => nilCheck (opd tm x)
  | .binOp op t x y _ => binOp E op t (opd tm x) (opd tm y)
  | .unOp op _ x => unOp op (opd tm x)
  | .convert s d x => convert E s d (opd tm x)
  | .makeFunc f a c => match f with
    | .func g => M.pure (.fn (.func g) (bC tm a.toList) (bC tm c.toList))
    | _ => fail "makeFunc"
  | .makeSlice t l c => makeSlice E t (opd tm l) (opd tm c)
  | .slice t x lo hi mx => slice E t (opd tm x) (opt tm lo) (opt tm hi) (opt tm mx)
  | .fieldAddr t x f => fieldAddr E t (opd tm x) f
  | .field t x f => field E t (opd tm x) f
  | .indexAddr t x i => indexAddr E t (opd tm x) (opd tm i)
  | .index t x i => index E t (opd tm x) (opd tm i)
  | .range t x => range E t (opd tm x)
  | .next x s => match s with
    | true => next (opd tm x)
    | false => fail "next of a map"
  | .extract x i => extract (opd tm x) i
  | .call c => aI E rec tm c
  | .makeMap _ r => qY (opt tm r)
  | .entry x => DE (opd tm x)
  | .lookup t x k ok => iS E t (opd tm x) (opd tm k) ok
  | .mapUpdate t x k y => qC E t (opd tm x) (opd tm k) (opd tm y)
  | .insert t x k y => qC E t (opd tm x) (opd tm k) (opd tm y)
  | .mapEntry t x k => iK E t (opd tm x) (opd tm k)
  | .entryStore _ x st y => gE (opd tm x) (opd tm st) (opd tm y)
  | _ => fail "an operation that is not known"
def aC (tm : List a9) (d : Option Tmp) (v : a9) : List a9 :=
  match d with
  | some d => put tm d v
  | none => tm
def kC (want : Bool) : a9 → M Bool
  | .bool b => (ask b).bind fun t => M.pure (t == want)
  | .blit b => M.pure (b == want)
  | .junk => fail "guard"
  | _ => M.pure false
def wanted (ops : List Oper) (tm : List a9) (g : Option (Nat × Bool)) : M Bool :=
  match g with
  | none => M.pure true
  | some p => match (ops[p.1]?).bind (·.dst) with
    | none => M.pure false
    | some d => kC p.2 (nth tm d undef)
def opV (ops : List Oper) (o : Oper) (tm : List a9) : M a9 :=
  (wanted ops tm o.guard).bind fun w => match w with
    | true => execOp E rec tm o.op
    | false => M.pure undef
def FZ (ops : List Oper) (o : Oper) (tm : List a9) : M (List a9) := (opV E rec ops o tm).bind fun v => M.pure (aC tm o.dst v)
def jP (ops : List Oper) : List Oper → List a9 → M (List a9)
  | [], tm => M.pure tm
  | o :: rest, tm => (FZ E rec ops o tm).bind fun tm => jP ops rest tm
structure fN where
  j : Nat
  r : List Nat
  w : List Nat
  lo : Nat
  hi : Nat
def old (lo hi id : Nat) : Bool := id.blt lo || hi.ble id
def lG {α : Type} (j : Nat) (m : M α) (s : St) : Res (α × fN) :=
  match m.run { s with rds := [], wrs := [] } with
  | .ok a s' => .ok (a, ⟨j, s'.rds.filter (old s.next s'.next), s'.wrs.filter (old s.next s'.next), s.next, s'.next⟩) { s' with rds := s'.rds ++ s.rds, wrs := s'.wrs ++ s.wrs }
  | .fail w => .fail w
  | .ask b => .ask b
theorem JD {α : Type} (j : Nat) (m : M α) : Loc (lG j m) := by
  intro s a s' h
  unfold lG at h
  cases hm : m.run { s with rds := [], wrs := [] } with
  | fail w => rw [hm] at h; cases h
  | ask b => rw [hm] at h; cases h
  | ok a1 s1 =>
    rw [hm] at h
    injection h with h1 h2
    subst h1; subst h2
    obtain ⟨r, w, o, d⟩ := m.loc _ _ _ hm
    have er : s1.rds = r := by simpa using d.rds
    have ew : s1.wrs = w := by simpa using d.wrs
    refine ⟨r, w, o, ⟨d.next, by simp [er], by simp [ew], d.obs, d.rest, d.live, fun t hn ho hg => ?_, d.orc, d.rlive⟩⟩
    obtain ⟨t', e, hn', ho', hr', hw', hob', hg', hk'⟩ := d.again { t with rds := [], wrs := [] } hn ho hg
    have er' : t'.rds = r := by simpa using hr'
    have ew' : t'.wrs = w := by simpa using hw'
    refine ⟨{ t' with rds := t'.rds ++ t.rds, wrs := t'.wrs ++ t.wrs }, ?_, hn', ho', by simp [er'], by simp [ew'], hob', hg', hk'⟩
    unfold lG
    rw [e]
    simp only [hn, hn', er, ew, er', ew']
def jI {α : Type} (j : Nat) (m : M α) : M (α × fN) := ⟨lG j m, JD j m⟩
def meets (x y : List Nat) : Bool := x.any fun a => y.any fun b => a.beq b
def within (lo hi id : Nat) : Bool := lo.ble id && id.blt hi
def kE (x : List Nat) (f : fN) : Bool := match f.lo.beq f.hi with
  | true => false
  | false => x.any (within f.lo f.hi)
def fE (a b : fN) : Bool := meets a.w b.r || (meets a.w b.w || (meets a.r b.w || (kE a.r b || (kE a.w b || (kE b.r a || kE b.w a)))))
def bitsOf (acc : List Nat) : List Edge → Nat
  | [] => 0
  | e :: l => match Region.binds .any e with
    | true => bitsOf acc l ||| (2 ^ e.on ||| acc.getD e.on 0)
    | false => bitsOf acc l
def dS (acc : List Nat) : List Oper → List Nat
  | [] => acc
  | o :: l => dS (acc ++ [bitsOf acc o.after.toList]) l
def cV (bs : List Nat) : List fN → Bool
  | [] => true
  | b :: l => l.all (fun a => (fE a b).not || (bs.getD b.j 0).testBit a.j) && cV bs l
def iQ (ops : List Oper) : Nat → List Oper → List a9 → List fN → M (List a9 × List fN)
  | _, [], tm, fs => M.pure (tm, fs)
  | j, o :: rest, tm, fs => (jI j (opV E rec ops o tm)).bind fun r => iQ ops (j + 1) rest (aC tm o.dst r.1) (r.2 :: fs)
def tmpsOf : List Operand → List Nat
  | [] => []
  | x :: l => match x with
    | .tmp t => t :: tmpsOf l
    | _ => tmpsOf l
def qZ (ops : List Oper) (o : Oper) : List Nat :=
  tmpsOf o.op.operands.toList ++
  (match o.guard with
   | some p => ((ops[p.1]?).bind (·.dst)).toList
   | none => [])
def jQ (ops : List Oper) (j : Nat) : List Oper → List fN → List fN
  | [], fs => fs
  | o :: rest, fs => jQ ops (j + 1) rest (⟨j, qZ ops o, o.dst.toList, 0, 0⟩ :: fs)
def rT (j : Nat) : List Oper → Bool
  | [] => true
  | o :: l => o.after.toList.all (fun e => match Region.binds .any e with
      | true => e.on.blt j
      | false => true) && rT (j + 1) l
def qM (ops : List Oper) : Bool := rT 0 ops && cV (dS [] ops) (jQ ops 0 ops [])
def vN (ops : List Oper) (tm : List a9) : M (List a9) :=
  (ob (qM ops)).bind fun _ => (iQ E rec ops 0 ops tm []).bind fun r => (ob (cV (dS [] ops) r.2)).bind fun _ => M.pure r.1
def CG (id : Nat) (tm : List a9) : M (fQ × List a9) :=
  (fI id).bind (dM fun l => match l.state with
    | .busy => fail "busy"
    | _ => (jF id (.loop { l with state := .exhausted })).bind fun _ => match l.pending with
      | none => M.pure (.normal, tm)
      | some c => match c with
        | .ret => M.pure (.ret, tm)
        | .exit j => M.pure (.exit j, tm)
        | _ => fail "pending")
def aA : List Bool → List a9 → List a9
  | [], tm => tm
  | _ :: _, [] => []
  | b :: k, a :: tm => (match b with | true => a | false => .junk) :: aA k tm
def forget (fn : FuncId) (tm : List a9) : List a9 :=
  match (E.funcs.find fn).i.aT with
  | none => tm
  | some k => aA k tm
noncomputable def step (fn : FuncId) (rnd : Option Nat) (c : Code) (tm : List a9) : M (fQ × List a9) :=
  match c with
  | .skip => M.pure (.normal, tm)
  | .label _ => M.pure (.normal, tm)
  | .region id ops draw => match draw with
    | false => (jP E rec ops.toList ops.toList tm).bind fun tm => M.pure (.normal, forget E fn tm)
    | true => match fV E.rhooks fn id (.region id ops true) with
      | some act => act tm
      | none => (vN E rec ops.toList tm).bind fun tm => M.pure (.normal, forget E fn tm)
  | .seq a b => (rec fn rnd a tm).bind fun r => match r.1 with
    | .normal => rec fn rnd b r.2
    | _ => M.pure r
  | .cond c a b => (branch (opd tm c)).bind fun t => match t with
    | true => rec fn rnd a tm
    | false => rec fn rnd b tm
  | .block id c => match fV E.bhooks fn id (.block id c) with
    | some act => act tm
    | none => (rec fn rnd c tm).bind fun r => match r.1 with
      | .exit j => match j.beq id with
        | true => M.pure (.normal, r.2)
        | false => M.pure r
      | _ => M.pure r
  | .loop c => (rec fn rnd c tm).bind fun r => match r.1 with
    | .normal => rec fn rnd (.loop c) r.2
    | _ => M.pure r
  | .rangeFunc f ps assign body => match opd tm f with
    | .fn g first cap => match g with
      | .func g => match (E.funcs.find g).f.beq g with
        | true => (match rnd with
            | none => M.pure ()
            | some l0 => (fI l0).bind (dM fun _ => M.pure ())).bind fun _ =>
          (qB (.loop { state := .ready, pending := none, fn, tmps := tm, params := ps.toList, assign, body })).bind fun id =>
          (bT E rec g (first ++ [a9.fn (.yield id) [] []] ++ cap)).bind fun _ => CG id tm
        | false => fail "range over a function"
      | _ => fail "range over a function"
    | _ => fail "range over a function"
  | .exit id => M.pure (.exit id, tm)
  | .scope c => rec fn rnd c tm
  | .ret => M.pure (.ret, tm)
  | _ => fail "code"
noncomputable def j9 : Nat → Rec
  | 0 => fun _ _ _ _ => fail "fuel"
  | n + 1 => step E (j9 n)
end Go.Am
