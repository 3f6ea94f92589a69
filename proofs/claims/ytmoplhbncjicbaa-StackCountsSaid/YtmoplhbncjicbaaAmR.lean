/- What an abstract value, block, state stands for in the model: relations, and what an action leaves. -/
import Derived.Test.YtmoplhbncjicbaaAmA
import Derived.RangeFuncIn
import Derived.OrdersIn
set_option linter.unusedSimpArgs false
set_option linter.unusedVariables false
namespace Go.Am
open Go

/-- The block that an abstract one stands for, its number of cells, the cells of an element. -/
structure RB where
  b : Nat
  n : Nat
  s : Nat
abbrev Ren := Nat → Option RB
/-- Blocks that stay as they are. -/
abbrev Mem := Nat → Option Obj
def Mem.cell (m : Mem) (b off : Nat) : Option Value :=
  match m b with
  | some (.cells c _ _) => c[off]?
  | _ => none

inductive RF (ρ : Ren) : Fn → Fn → Prop
  | func (f : FuncId) : RF ρ (.func f) (.func f)
  | yield (id : Nat) (r : RB) (h : ρ id = some r) : RF ρ (.yield id) (.yield r.b)

inductive R (ρ : Ren) (m : Mem) : AVal → Value → Prop
  | bool (b : Bool) : R ρ m (.bool b) (.bool b)
  | blit (b : Bool) : R ρ m (.blit b) (.bool b)
  | int (k : IntKind) (n : Int) : R ρ m (.int k n) (.int k n)
  | str (l : List UInt8) : R ρ m (.str l) (.string ⟨⟨l⟩⟩)
  | nilp : R ρ m .nilp (.pointer none)
  | nils : R ρ m .nils (.slice none 0 0)
  | nilm : R ρ m .nilm (.map none)
  | nilf : R ρ m .nilf .nilFunc
  | nili : R ρ m .nili .nilIface
  | emp (a : Option Addr) : R ρ m .emp (.slice a 0 0)
  | ptr (id off : Nat) (r : RB) (h : ρ id = some r) : R ρ m (.ptr id off) (.pointer (some ⟨r.b, off, none⟩))
  | slx (id off len c sz : Nat) (r : RB) (h : ρ id = some r) (hl : len ≤ c) : R ρ m (.sl id off len (some c) sz) (.slice (some ⟨r.b, off, none⟩) len c)
  | slw (id off len c sz : Nat) (r : RB) (h : ρ id = some r) (hl : len ≤ c) (hs : r.s = sz) (hc : off + c * sz = r.n) : R ρ m (.sl id off len none sz) (.slice (some ⟨r.b, off, none⟩) len c)
  | sl0 (id off sz : Nat) (cap : Option Nat) (a : Addr) (hc : ∀ k, cap = some k → k = 0) (hn : cap = none → ∃ r, ρ id = some r ∧ r.n ≤ off) : R ρ m (.sl id off 0 cap sz) (.slice (some a) 0 0)
  | ip (f : Nat → AVal) (n off b o : Nat) (g : Nat → Value) (hg : ∀ j, j < n → m.cell b (o + j) = some (g j)) (hr : ∀ j, j < n → R ρ m (f j) (g j)) : R ρ m (.ip f n off) (.pointer (some ⟨b, o + off, none⟩))
  | isl (f : Nat → AVal) (sz off len b o c : Nat) (g : Nat → Value) (hg : ∀ j, j < off + len * sz → m.cell b (o + j) = some (g j)) (hr : ∀ j, j < off + len * sz → R ρ m (f j) (g j)) (hl : len ≤ c) : R ρ m (.isl f sz off len) (.slice (some ⟨b, o + off, none⟩) len c)
  | isl0 (f : Nat → AVal) (sz off c : Nat) (a : Addr) : R ρ m (.isl f sz off 0) (.slice (some a) 0 c)
  | fn (f f' : Fn) (x y : List AVal) (x' y' : Array Value) (hf : RF ρ f f') (hx : x.length = x'.size) (hy : y.length = y'.size)
      (rx : ∀ (i : Nat) v u, x[i]? = some v → x'[i]? = some u → R ρ m v u) (ry : ∀ (i : Nat) v u, y[i]? = some v → y'[i]? = some u → R ρ m v u) : R ρ m (.fn f x y) (.func f' x' y')
  | agg (l : List AVal) (c : Array Value) (hl : l.length = c.size) (hr : ∀ (i : Nat) v x, l[i]? = some v → c[i]? = some x → R ρ m v x) : R ρ m (.agg l) (.agg c)
  | tup (l : List AVal) (c : Array Value) (hl : l.length = c.size) (hr : ∀ (i : Nat) v x, l[i]? = some v → c[i]? = some x → R ρ m v x) : R ρ m (.tup l) (.tuple c)
  | map (id : Nat) (r : RB) (h : ρ id = some r) : R ρ m (.map id) (.map (some r.b))
  | junk (x : Value) : R ρ m .junk x

/-- Lists of values. -/
structure RL (ρ : Ren) (m : Mem) (l : List AVal) (c : Array Value) : Prop where
  len : l.length = c.size
  at_ : ∀ (i : Nat) v x, l[i]? = some v → c[i]? = some x → R ρ m v x

structure MLe (m m' : Mem) : Prop where
  le : ∀ b c t f, m b = some (.cells c t f) → m' b = some (.cells c t f)
theorem Mem.cell_le {m m' : Mem} (h : MLe m m') {b off : Nat} {v : Value} (hc : m.cell b off = some v) : m'.cell b off = some v := by
  unfold Mem.cell at *
  cases hb : m b with
  | none => rw [hb] at hc; cases hc
  | some o =>
    cases o with
    | cells c t f => rw [hb] at hc; rw [h.le b c t f hb]; exact hc
    | _ => rw [hb] at hc; cases hc

def RenLe (ρ ρ' : Ren) : Prop := ∀ id r, ρ id = some r → ρ' id = some r

theorem RF.mono {ρ ρ' : Ren} (h : RenLe ρ ρ') {f f' : Fn} (hf : RF ρ f f') : RF ρ' f f' := by
  cases hf with
  | func f => exact .func f
  | yield id r hr => exact .yield id r (h id r hr)
theorem R.mono {ρ ρ' : Ren} {m m' : Mem} (h : RenLe ρ ρ') (hm : MLe m m') {v : AVal} {x : Value} (hr : R ρ m v x) : R ρ' m' v x := by
  induction hr with
  | bool b => exact .bool b
  | blit b => exact .blit b
  | int k n => exact .int k n
  | str l => exact .str l
  | nilp => exact .nilp
  | nils => exact .nils
  | nilm => exact .nilm
  | nilf => exact .nilf
  | nili => exact .nili
  | emp a => exact .emp a
  | ptr id off r hid => exact .ptr id off r (h id r hid)
  | slx id off len c sz r hid hl => exact .slx id off len c sz r (h id r hid) hl
  | slw id off len c sz r hid hl hs hc => exact .slw id off len c sz r (h id r hid) hl hs hc
  | sl0 id off sz cap a hc hn => exact .sl0 id off sz cap a hc (fun e => by obtain ⟨r, h1, h2⟩ := hn e; exact ⟨r, h id r h1, h2⟩)
  | ip f n off b o g hg hr ih => exact .ip f n off b o g (fun j hj => Mem.cell_le hm (hg j hj)) ih
  | isl f sz off len b o c g hg hr hl ih => exact .isl f sz off len b o c g (fun j hj => Mem.cell_le hm (hg j hj)) ih hl
  | isl0 f sz off c a => exact .isl0 f sz off c a
  | fn f f' x y x' y' hf hx hy rx ry ihx ihy => exact .fn f f' x y x' y' (hf.mono h) hx hy ihx ihy
  | agg l c hl hr ih => exact .agg l c hl ih
  | tup l c hl hr ih => exact .tup l c hl ih
  | map id r hid => exact .map id r (h id r hid)
  | junk x => exact .junk x
theorem RL.mono {ρ ρ' : Ren} {m m' : Mem} (h : RenLe ρ ρ') (hm : MLe m m') {l : List AVal} {c : Array Value} (hr : RL ρ m l c) : RL ρ' m' l c :=
  ⟨hr.len, fun i v x hv hx => (hr.at_ i v x hv hx).mono h hm⟩

/-- No cell of n is frozen; what is marked behind them is bytes. -/
def FrOk (P : Program) (t : TypeId) (fr : Nat × Nat) (n : Nat) : Prop := fr.1 = fr.2 ∨ (n ≤ fr.1 ∧ P.underlying t = some (.int .u8))
theorem FrOk.out {P : Program} {t : TypeId} {fr : Nat × Nat} {n : Nat} (h : FrOk P t fr n) : ∀ j, j < n → ¬ (fr.1 ≤ j ∧ j < fr.2) := fun j hj ⟨a, b⟩ => by
  rcases h with h | h <;> omega
/-- An entry of a map. -/
structure ME (ρ : Ren) (m : Mem) (e : AVal × AVal × Nat) (x : MapEntry) : Prop where
  key : R ρ m e.1 x.key
  val : R ρ m e.2.1 x.val
  born : x.born = e.2.2
inductive BR (P : Program) (ρ : Ren) (m : Mem) : RB → Blk → Obj → Prop
  | row (rb : RB) (c : Cont) (elem : TypeId) (arr : Array Value) (fr : Nat × Nat) (hs : (P.info? elem).map (·.size) = some rb.s) (hn : arr.size = rb.n) (hc : c.size ≤ arr.size)
      (hr : ∀ j x, j < c.size → arr[j]? = some x → R ρ m (c.at j) x) (hf : FrOk P elem fr arr.size) : BR P ρ m rb (.row c elem) (.cells arr elem fr)
  | loop (rb : RB) (l : ALoop) (L : Loop) (h1 : L.state = l.state) (h2 : L.pending = l.pending) (h4 : RL ρ m l.tmps L.tmps) (h5 : L.params.toList = l.params)
      (h6 : L.assign = l.assign) (h7 : L.body = l.body) : BR P ρ m rb (.loop l) (.loop L)
  | siter (rb : RB) (s : List UInt8) (pos : Nat) : BR P ρ m rb (.siter s pos) (.stringIter ⟨⟨s⟩⟩ pos)
  | map (rb : RB) (es : List (AVal × AVal × Nat)) (ck : Nat) (arr : Array MapEntry) (hl : es.length = arr.size) (hr : ∀ (i : Nat) e x, es[i]? = some e → arr[i]? = some x → ME ρ m e x) : BR P ρ m rb (.map es ck) (.map arr ck)
  | miter (rb : RB) (id since : Nat) (seen : List Nat) (last : Nat) (r : RB) (h : ρ id = some r) : BR P ρ m rb (.miter id since seen last) (.mapIter (some r.b) since seen.toArray last)
theorem BR.mono {P : Program} {ρ ρ' : Ren} {m m' : Mem} (h : RenLe ρ ρ') (hm : MLe m m') {rb : RB} {b : Blk} {o : Obj} (hb : BR P ρ m rb b o) : BR P ρ' m' rb b o := by
  cases hb with
  | row c elem arr fr hs hn hc hr hf => exact .row _ c elem arr fr hs hn hc (fun j x hj hx => (hr j x hj hx).mono h hm) hf
  | loop l L h1 h2 h4 h5 h6 h7 => exact .loop _ l L h1 h2 (h4.mono h hm) h5 h6 h7
  | siter s pos => exact .siter _ s pos
  | map es ck arr hl hr => exact .map _ es ck arr hl (fun i e x he hx => ⟨(hr i e x he hx).key.mono h hm, (hr i e x he hx).val.mono h hm, (hr i e x he hx).born⟩)
  | miter id since seen last r hid => exact .miter _ id since seen last r (h id r hid)

/-- What the abstract heap says of the world. -/
structure Rel (P : Program) (ρ : Ren) (m : Mem) (h : Nat → Option Blk) (w : World) : Prop where
  live : ∀ id b, h id = some b → ∃ rb o, ρ id = some rb ∧ w.heap[rb.b]? = some o ∧ BR P ρ m rb b o ∧ m rb.b = none
  inj : ∀ i j b c r r', h i = some b → h j = some c → ρ i = some r → ρ j = some r' → r.b = r'.b → i = j
  mem : ∀ b o, m b = some o → w.heap[b]? = some o

theorem Rel.congr {P : Program} {ρ : Ren} {m : Mem} {h h' : Nat → Option Blk} {w : World} (hr : Rel P ρ m h w) (e : ∀ id, h' id = h id) : Rel P ρ m h' w := by
  have : h' = h := funext e
  rw [this]; exact hr

structure Fr (w w' : World) : Prop where
  os : w'.os = w.os
  tape : w'.tape = w.tape
  output : w'.output = w.output
  size : w.heap.size ≤ w'.heap.size
theorem Fr.refl (w : World) : Fr w w := ⟨rfl, rfl, rfl, Nat.le_refl _⟩
theorem Fr.trans {a b c : World} (h : Fr a b) (h' : Fr b c) : Fr a c := ⟨h'.os.trans h.os, h'.tape.trans h.tape, h'.output.trans h.output, Nat.le_trans h.size h'.size⟩

/-- What an action leaves. -/
structure Post (P : Program) (ρ : Ren) (m : Mem) (s : St) (w : World) (ρ' : Ren) (m' : Mem) (s' : St) (w' : World) : Prop where
  ren : RenLe ρ ρ'
  new : ∀ id, ρ' id ≠ none → ρ id ≠ none ∨ New s s' id
  mem : ∀ b o, m b = some o → m' b = some o
  rel : Rel P ρ' m' s'.heap.get w'
  fr : Fr w w'
  next : s.next ≤ s'.next
theorem Post.mle {P : Program} {ρ ρ' : Ren} {m m' : Mem} {s s' : St} {w w' : World} (h : Post P ρ m s w ρ' m' s' w') : MLe m m' := ⟨fun b c t f hb => h.mem b _ hb⟩
def Fresh (ρ : Ren) (s s' : St) : Prop := ∀ id, New s s' id → ρ id = none
theorem Post.trans {P : Program} {ρ ρ1 ρ2 : Ren} {m m1 m2 : Mem} {s s1 s2 : St} {w w1 w2 : World} (a : Post P ρ m s w ρ1 m1 s1 w1) (b : Post P ρ1 m1 s1 w1 ρ2 m2 s2 w2) : Post P ρ m s w ρ2 m2 s2 w2 where
  ren := fun id r h => b.ren id r (a.ren id r h)
  new := fun id h => by
    have := a.next
    have := b.next
    rcases b.new id h with h | h
    · rcases a.new id h with h | h
      · exact .inl h
      · exact .inr ⟨h.1, by have := h.2; omega⟩
    · exact .inr ⟨by have := h.1; omega, h.2⟩
  mem := fun x o h => b.mem x o (a.mem x o h)
  rel := b.rel
  fr := a.fr.trans b.fr
  next := Nat.le_trans a.next b.next
theorem Fresh.fst {ρ : Ren} {s s1 s2 : St} (h : Fresh ρ s s2) (hn : s1.next ≤ s2.next) : Fresh ρ s s1 := fun id hid => h id ⟨hid.1, by have := hid.2; omega⟩
theorem Fresh.snd {P : Program} {ρ ρ1 : Ren} {m m1 : Mem} {s s1 s2 : St} {w w1 : World} (h : Fresh ρ s s2) (a : Post P ρ m s w ρ1 m1 s1 w1) : Fresh ρ1 s1 s2 := fun id hid => by
  have hs := a.next
  have h0 := h id ⟨by have := hid.1; omega, hid.2⟩
  cases e : ρ1 id with
  | none => rfl
  | some r =>
    rcases a.new id (by rw [e]; simp) with h1 | h1
    · exact absurd h0 h1
    · have := h1.2; have := hid.1; omega
/-- Nothing was done to memory. -/
theorem Post.same {P : Program} {ρ : Ren} {m : Mem} {s s' : St} {w : World} (h : Rel P ρ m s.heap.get w) (hh : ∀ id, s'.heap.get id = s.heap.get id) (hn : s'.next = s.next) : Post P ρ m s w ρ m s' w where
  ren := fun _ _ h => h
  new := fun _ h => .inl h
  mem := fun _ _ h => h
  rel := h.congr hh
  fr := .refl w
  next := by omega

def OkObs (s : St) : Prop := s.obs.all id = true
theorem OkObs.of {s s' : St} {o : List Bool} (h : OkObs s') (e : s'.obs = o ++ s.obs) : OkObs s := by
  unfold OkObs at *; rw [e, List.all_append, Bool.and_eq_true] at h; exact h.2

/-- A call of function f: it is entered and returns, or the model answers it at once. -/
def CallR (P : Program) (f : FuncId) (args : Array Value) (w : World) (K : Value → World → Prop) : Prop :=
  ((callFunc f args).run P w = .ok (.enter f args) w ∧ Calls P f args w fun e w' => ∃ v, e = .returned v ∧ K v w') ∨
  ∃ v w', (callFunc f args).run P w = .ok (.value v) w' ∧ K v w'

/-- The abstract action does what calls of f do. -/
def SimCall (P : Program) (f : FuncId) (act : List AVal → M AVal) : Prop :=
  ∀ args s v s', (act args).run s = .ok v s' → OkObs s' → ∀ ρ m w xs, Rel P ρ m s.heap.get w → Fresh ρ s s' → RL ρ m args xs →
    CallR P f xs w fun x w' => ∃ ρ', Post P ρ m s w ρ' m s' w' ∧ R ρ' m v x

/-- The abstract action does what a piece of the model's own steps does, and hands on what relates. -/
def SimV {α β : Type} (P : Program) (act : M α) (real : Sem β) (ρ : Ren) (m : Mem) (K : Ren → Mem → α → β → Prop) : Prop :=
  ∀ s a s', act.run s = .ok a s' → OkObs s' → ∀ w, Rel P ρ m s.heap.get w → Fresh ρ s s' →
    ∃ b w' ρ', real.run P w = .ok b w' ∧ Post P ρ m s w ρ' m s' w' ∧ K ρ' m a b

theorem M.bind_did {α β : Type} {mm : M α} {f : α → M β} {s : St} {b : β} {s2 : St} (h : (mm.bind f).run s = .ok b s2) (ho : OkObs s2) :
    ∃ a s1, mm.run s = .ok a s1 ∧ (f a).run s1 = .ok b s2 ∧ OkObs s1 ∧ s.next ≤ s1.next ∧ s1.next ≤ s2.next := by
  obtain ⟨a, s1, h1, h2⟩ := M.bind_ok h
  obtain ⟨_, _, _, d1⟩ := mm.loc _ _ _ h1
  obtain ⟨_, _, _, d2⟩ := (f a).loc _ _ _ h2
  exact ⟨a, s1, h1, h2, ho.of d2.obs, d1.next, d2.next⟩
end Go.Am
