/- What the statement reaches, gone through; and the abstract machine that goes through it. -/
import Derived.Test.YtlgebaofkolkoaaGB
import Derived.KernelRfl
import Derived.Test.YtlgebaofkolkoaaProg
import Derived.Maps.RangeRun
set_option linter.unusedSimpArgs false
set_option linter.unusedVariables false
set_option linter.defProp false
namespace Go.Am
open Go
def fB {α : Type} (l : List α) (k : Nat) (v : α) : List α := l.take k ++ v :: l.drop k
theorem j9 {α : Type} (l : List α) (k : Nat) (v : α) : (fB l k v).length = l.length + 1 := by simp [fB]; omega
def am3 (k : Int) (len : Nat) : Bool := decide (0 ≤ k ∧ k ≤ (len : Int))
def NQ : M Nat := ⟨fun s => .ok s.next s, by
 intro s a s' h
 injection h with h1 h2
 subst h1; subst h2
 exact ⟨[], [], [], ⟨Nat.le_refl _, rfl, rfl, rfl, fun _ _ _ => rfl, fun _ h => (by cases h), fun t hn ho hg =>
  ⟨t, by rw [hn], hn, ho, rfl, rfl, rfl, fun id hid => hg id (.inr hid), fun _ _ _ => rfl⟩, id, fun _ h => (by cases h)⟩⟩⟩
theorem SZ {n : Nat} {s s' : St} (h : NQ.run s = .ok n s') : n = s.next ∧ fJ s s' := by
 injection h with h1 h2
 subst h1; subst h2
 exact ⟨rfl, .refl _⟩
theorem RC {α : Type} {f : Nat → M α} {h : Hp} {n : Nat} {Q : α → Hp → Nat → Prop} : Wp (NQ.bind f) h n Q ↔ Wp (f n) h n Q := by
 rw [cR]
 constructor
 ·intro hw
  obtain ⟨s, a, s', ⟨h1, h2, h3⟩, he, hq⟩ := hw
  have := he.run
  injection this with e1 e2
  subst e1; subst e2
  rw [h1, h2] at hq
  exact hq
 ·intro hw
  exact ⟨at0 h n, n, at0 h n, m5 h n, ⟨rfl, ⟨[], rfl, rfl⟩, rfl⟩, hw⟩
def qJ (e : TypeId) (i : TI) (at_ : Int) (v : a9) : M a9 := (ob (decide (at_ = 0))).bind fun _ => hO e i 1 [v]
def uP (e : TypeId) (i : TI) : List a9 → M a9
 | [s, .int .i64 at_, .sl xid 0 1 (some 1) 1] => NQ.bind fun nx => (eI xid).bind (eG fun xc xt => (ob (Nat.blt xid nx && (Nat.blt 0 xc.size && (xt.beq e && bC (xc.at 0))))).bind fun _ => match s with
  | .aL => qJ e i at_ (xc.at 0)
  | .emp => qJ e i at_ (xc.at 0)
  | .sl id off len cap sz => cB sz 1 (match cap with
   | some m => (eI id).bind (eG fun c t => (ob (Nat.blt id nx && (m.beq 0 && (len.beq 0 && (t.beq e && off.ble c.size))))).bind fun _ => qJ e i at_ (xc.at 0))
   | none => (eI id).bind (eG fun c t => (ob (Nat.blt id nx && (off.beq 0 && (t.beq e && (Nat.blt 0 c.size && (len.ble c.size && ((id.beq xid).not && (am3 at_ len && (c.sub 0 len).all bC)))))))).bind fun _ =>
     (zH id).bind fun _ => hO e i (len + 1) (fB (c.sub 0 len) at_.toNat (xc.at 0))))
  | _ => aY "Insert")
 | _ => aY "Insert"
structure IW (E : Env) (f : FuncId) (e : TypeId) (i : TI) : Prop where
 nil : ∀ (h : Hp) (n : Nat) (s : a9) (xid : Nat) (xc : bI), (s = .aL ∨ s = .emp ∨ ∃ id off c, s = .sl id off 0 (some 0) 1 ∧ h id = some (.row c e) ∧ off ≤ c.size) → h xid = some (.row xc e) → 0 < xc.size → bC (xc.at 0) = true → xid < n →
  Wp (aQ E (aE E) f [s, .int .i64 0, .sl xid 0 1 (some 1) 1]) h n fun v' h' n' => v' = .sl n 0 1 none 1 ∧ n' = n + 1 ∧ ∀ j, h' j = if j = n then some (.row (.l [xc.at 0]) e) else h j
 at_ : ∀ (h : Hp) (n : Nat) (id len C k xid : Nat) (cells : List a9) (xc : bI), h id = some (.row (.l cells) e) → cells.length = C → len ≤ C → 0 < C → 2 * (len + 1) * i.bytes ≤ 281474976710656 → len + 1 ≤ 281474976710656 → k ≤ len → (cells.take len).all bC = true →
  h xid = some (.row xc e) → 0 < xc.size → bC (xc.at 0) = true → xid < n → id < n → xid ≠ id →
  Wp (aQ E (aE E) f [.sl id 0 len (some C) 1, .int .i64 (k : Nat), .sl xid 0 1 (some 1) 1]) h n fun v' h' n' =>
   (v' = .sl id 0 (len + 1) (some C) 1 ∧ n' = n ∧ len + 1 ≤ C ∧ ∃ cells', cells'.length = C ∧ cells'.take (len + 1) = fB (cells.take len) k (xc.at 0) ∧ ∀ j, h' j = if j = id then some (.row (.l cells') e) else h j) ∨
   (v' = .sl n 0 (len + 1) none 1 ∧ n' = n + 1 ∧ ∀ j, h' j = if j = n then some (.row (.l (fB (cells.take len) k (xc.at 0))) e) else h j)
section
variable {P : Program} {f : FuncId} {ρ : Ren} {m : Mem} {s s' : St} {w : World}
theorem Rel.MQ {h h' : Nat → Option Blk} (hr : Rel P ρ m h w) {id : Nat} {c c2 : bI} {t : TypeId} (hg : h id = some (.row c t)) {r : RB} (hρ : ρ id = some r) (hs : c2.size ≤ r.n) (hc : ∀ j, j < c2.size → c2.at j = .aA ∨ (j < c.size ∧ c2.at j = c.at j))
  (hh : ∀ j, h' j = if j = id then some (.row c2 t) else h j) : Rel P ρ m h' w where
 dL := fun j b hj => by
  rw [hh j] at hj
  by_cases e : j = id
  ·subst e
   rw [if_pos rfl] at hj
   injection hj with hj
   subst hj
   obtain ⟨rb, o, q1, q2, q3, q4⟩ := hr.dL j _ hg
   rw [hρ] at q1
   injection q1 with q1
   subst q1
   cases q3 with
   | row _ _ arr fr hs' hn hc' hrr hf =>
    refine ⟨r, _, hρ, q2, .row r c2 t arr fr hs' hn (by omega) (fun j x hj hx => ?_) hf, q4⟩
    rcases hc j hj with e | ⟨h1, h2⟩
    ·rw [e]; exact .aA _
    ·rw [h2]; exact hrr j x h1 hx
  ·rw [if_neg e] at hj
   exact hr.dL j b hj
 inj := fun i j b1 b2 r1 r2 h1 h2 h3 h4 h5 => by
  have up : ∀ {k b}, h' k = some b → ∃ b', h k = some b' := fun {k b} hk => by
   rw [hh k] at hk
   by_cases e : k = id
   ·subst e; exact ⟨_, hg⟩
   ·rw [if_neg e] at hk; exact ⟨_, hk⟩
  obtain ⟨b1', h1'⟩ := up h1
  obtain ⟨b2', h2'⟩ := up h2
  exact hr.inj i j _ _ r1 r2 h1' h2' h3 h4 h5
 mem := hr.mem
theorem Rel.sub {h h' : Nat → Option Blk} (hr : Rel P ρ m h w) (hh : ∀ j b, h' j = some b → h j = some b) : Rel P ρ m h' w :=
 ⟨fun id b hb => hr.dL id b (hh id b hb), fun i j b c r r' h1 h2 => hr.inj i j b c r r' (hh i b h1) (hh j c h2), hr.mem⟩
theorem EY.imp {xs : Array Value} {K K' : Value → World → Prop} (h : EY P f xs w K) (hk : ∀ v w', K v w' → K' v w') : EY P f xs w K' := by
 rcases h with ⟨h1, h2⟩ | ⟨v, w', h1, h2⟩
 ·exact .inl ⟨h1, h2.mono fun e w' ⟨v, h3, h4⟩ => ⟨v, h3, hk v w' h4⟩⟩
 ·exact .inr ⟨v, w', h1, hk v w' h2⟩
theorem aB3 {x y z : a9} {xs : Array Value} (h : RL ρ m [x, y, z] xs) : ∃ a b c, xs = #[a, b, c] ∧ R ρ m x a ∧ R ρ m y b ∧ R ρ m z c := by
 obtain ⟨l, r⟩ := h
 obtain ⟨xl⟩ := xs
 match xl with
 | [] => simp at l
 | [_] => simp at l
 | [_, _] => simp at l
 | [a, b, c] => exact ⟨a, b, c, rfl, r 0 _ _ rfl rfl, r 1 _ _ rfl rfl, r 2 _ _ rfl rfl⟩
 | _ :: _ :: _ :: _ :: _ => simp at l
theorem MM {x y z : a9} {a b c : Value} (ha : R ρ m x a) (hb : R ρ m y b) (hc : R ρ m z c) : RL ρ m [x, y, z] #[a, b, c] := by
 refine ⟨rfl, fun i u v hu hv => ?_⟩
 match i with
 | 0 => simp at hu hv; subst hu; subst hv; exact ha
 | 1 => simp at hu hv; subst hu; subst hv; exact hb
 | 2 => simp at hu hv; subst hu; subst hv; exact hc
 | i + 3 => simp at hu
theorem DY {e : TypeId} {i : TI} {need : Nat} {cs : List a9} {v : a9} (h : (hO e i need cs).run s = .ok v s') (ho : bS s') :
  2 * need * i.bytes ≤ 281474976710656 ∧ need ≤ 281474976710656 ∧ v = .sl s.next 0 need none i.size ∧ s'.next = s.next + 1 ∧ ∀ j, s'.heap.get j = if j = s.next then some (.row (.l cs) e) else s.heap.get j := by
 obtain ⟨_, s1, h1, h2, ho1, _, _⟩ := M.aG h ho
 obtain ⟨hb, e1⟩ := dO h1 ho1
 obtain ⟨id, s2, h3, h4⟩ := M.aF h2
 obtain ⟨rfl, rfl⟩ := aC h4
 obtain ⟨rfl, k1, k2⟩ := uJ h3
 simp only [Bool.and_eq_true] at hb
 rw [e1.next] at k1 k2 ⊢
 rw [e1.heap] at k2
 exact ⟨Nat.le_of_ble_eq_true hb.1, Nat.le_of_ble_eq_true hb.2, rfl, k1, k2⟩
theorem F6 {α : Type} {mm : M α} {h : Hp} {n : Nat} {Q : α → Hp → Nat → Prop} (hw : Wp mm h n Q) : ∃ a t, mm.run (at0 h n) = .ok a t ∧ bS t ∧ Q a t.heap.get t.next := by
 obtain ⟨a, t, he, hq⟩ := HI hw (m5 h n)
 obtain ⟨o, h1, h2⟩ := he.obs
 refine ⟨a, t, he.run, ?_, hq⟩
 unfold bS
 rw [h1]
 simpa [at0] using h2
end
theorem RY {E : Env} {f : FuncId} {e : TypeId} {i : TI} (W : IW E f e i) (h1 : i.size = 1) : l8 E.P f (uP e i) := by
 intro args s v s' h ho ρ m w xs hr hfr hx
 unfold uP at h
 split at h
 ·rename_i S at_ xid
  obtain ⟨nx, s0, g01, g02⟩ := M.aF h
  obtain ⟨rfl, e0⟩ := SZ g01
  obtain ⟨xb, s1, g1, g2, go1, _, gn1⟩ := M.aG g02 ho
  obtain ⟨hgx, e1⟩ := cV g1
  rw [e0.heap] at hgx
  obtain ⟨xc, xt, rfl, g3⟩ := iS g2
  obtain ⟨_, s2, g4, g5, go2, _, gn2⟩ := M.aG g3 ho
  obtain ⟨hb, e2⟩ := dO g4 go2
  simp only [Bool.and_eq_true] at hb
  obtain ⟨hxn, hxc, hxt, hone⟩ := hb
  have hxn : xid < s.next := Nat.le_of_ble_eq_true hxn
  have hxc : 0 < xc.size := Nat.le_of_ble_eq_true hxc
  obtain rfl := Nat.eq_of_beq_eq_true hxt
  have e12 := (e0.trans e1).trans e2
  obtain ⟨X, K, Y, rfl, rX, rK, rY⟩ := aB3 hx
  obtain rfl := rK.cF
  have fresh_live : ∀ {j b}, s.heap.get j = some b → s.next < s'.next → j ≠ s.next := fun {j b} hj hn e => by
   subst e
   obtain ⟨rb, o, q1, _⟩ := hr.dL s.next b hj
   rw [hfr s.next ⟨Nat.le_refl _, hn⟩] at q1
   cases q1
  have new1 : ∀ {S' : a9}, R ρ m S' X → (S' = .aL ∨ S' = .emp ∨ ∃ id off c, S' = .sl id off 0 (some 0) 1 ∧ s.heap.get id = some (.row c xt) ∧ off ≤ c.size) → ∀ s3, fJ s s3 → (qJ xt i at_ (xc.at 0)).run s3 = .ok v s' →
    EY E.P f #[X, .int .i64 at_, Y] w fun x w' => ∃ ρ', dS E.P ρ m s w ρ' m s' w' ∧ R ρ' m v x := by
   intro S' rS hS s3 e3 hg
   obtain ⟨_, s4, k1, k2, ko4, _, _⟩ := M.aG hg ho
   obtain ⟨hat, e4⟩ := dO k1 ko4
   have hat := of_decide_eq_true hat
   subst hat
   obtain ⟨_, _, rfl, k3, k4⟩ := DY k2 ho
   have e34 := e3.trans e4
   rw [e34.next] at k3 k4 ⊢
   rw [e34.heap] at k4
   obtain ⟨v', t, r1, r2, rfl, r4, r5⟩ := F6 (W.nil s.heap.get s.next S' xid xc hS hgx hxc hone hxn)
   have rr : Rel E.P ρ m (at0 s.heap.get s.next).heap.get w := hr.congr fun _ => rfl
   refine (nD lD f _ _ _ _ r1 r2 ρ m w _ rr (fun id hid => hfr id ⟨hid.1, by have := hid.2; omega⟩) (MM rS (.int _ _) rY)).imp fun x w' ⟨ρ', p, q⟩ => ?_
   refine ⟨ρ', ⟨p.ren, fun id hid => (p.new id hid).imp_right fun z => ⟨z.1, by have := z.2; omega⟩, p.mem, p.rel.sub fun j b hj => ?_, p.fr, by omega⟩, ?_⟩
   ·rw [k4] at hj; rw [r5]; exact hj
   ·rw [h1]; exact q
  split at g5
  ·exact new1 rX (.inl rfl) s2 e12 g5
  ·exact new1 rX (.inr (.inl rfl)) s2 e12 g5
  ·rename_i id off len cap sz
   obtain ⟨rfl, g6⟩ := dI g5
   cases cap with
   | some mm =>
    obtain ⟨b3, s3, g7, g8, go3, _, _⟩ := M.aG g6 ho
    obtain ⟨hg3, e3⟩ := cV g7
    obtain ⟨c, t, rfl, g9⟩ := iS g8
    obtain ⟨_, s4, g10, g11, go4, _, _⟩ := M.aG g9 ho
    obtain ⟨hb, e4⟩ := dO g10 go4
    simp only [Bool.and_eq_true] at hb
    obtain ⟨_, b1, b2, b3, b4⟩ := hb
    obtain rfl := Nat.eq_of_beq_eq_true b1
    obtain rfl := Nat.eq_of_beq_eq_true b2
    obtain rfl := Nat.eq_of_beq_eq_true b3
    rw [e12.heap] at hg3
    exact new1 rX (.inr (.inr ⟨id, off, c, rfl, hg3, Nat.le_of_ble_eq_true b4⟩)) s4 ((e12.trans e3).trans e4) g11
   | none =>
    obtain ⟨b3, s3, g7, g8, go3, _, _⟩ := M.aG g6 ho
    obtain ⟨hg3, e3⟩ := cV g7
    obtain ⟨c, t, rfl, g9⟩ := iS g8
    obtain ⟨_, s4, g10, g11, go4, _, _⟩ := M.aG g9 ho
    obtain ⟨hb, e4⟩ := dO g10 go4
    simp only [Bool.and_eq_true] at hb
    obtain ⟨b0, b1, b2, b3, b4, b5, b6, b7⟩ := hb
    have b0 : id < s.next := Nat.le_of_ble_eq_true b0
    obtain rfl := Nat.eq_of_beq_eq_true b1
    obtain rfl := Nat.eq_of_beq_eq_true b2
    have b3 : 0 < c.size := Nat.le_of_ble_eq_true b3
    have b4 := Nat.le_of_ble_eq_true b4
    have b5 : id ≠ xid := fun q => by subst q; simp at b5
    obtain ⟨b6, b8⟩ := of_decide_eq_true b6
    obtain ⟨k, rfl⟩ := Int.eq_ofNat_of_zero_le b6
    rw [e12.heap] at hg3
    have e14 := (e12.trans e3).trans e4
    obtain ⟨_, s5, g12, g13⟩ := M.aF g11
    obtain ⟨_, k1, k2⟩ := tD g12
    obtain ⟨c1, c2, rfl, k3, k4⟩ := DY g13 ho
    rw [k1, e14.next] at k3 k4 ⊢
    have k2 : ∀ j, s5.heap.get j = if j = id then none else s.heap.get j := fun j => by rw [k2, e14.heap]
    simp only [k2, Int.toNat_natCast] at k4
    have nid := fresh_live hg3 (by omega)
    have nxid := fresh_live hgx (by omega)
    obtain ⟨r, C, hρ, rfl, hC⟩ : ∃ r C, ρ id = some r ∧ X = .slice (some ⟨r.b, 0, none⟩) len C ∧ C = r.n ∧ r.s = 1 ∧ len ≤ C := by
     cases rX with
     | slw _ _ _ C _ r hρ hl hs hc => exact ⟨r, C, hρ, rfl, by omega, hs, hl⟩
     | sl0 _ _ _ _ ad hc hn =>
      obtain ⟨r, q1, q2⟩ := hn rfl
      obtain ⟨arr, fr, _, _, p3, p4, _⟩ := hr.row hg3 q1
      omega
    obtain ⟨rfl, hs1, hlC⟩ := hC
    obtain ⟨arr, fr, p1, p2, p3, p4, p5, p6, p7⟩ := hr.row hg3 hρ
    let cells : List a9 := c.sub 0 c.size ++ List.replicate (r.n - c.size) .aA
    let cc : bI := .l cells
    let hh : Hp := fun j => if j = id then some (.row cc t) else s.heap.get j
    have hl0 : (c.sub 0 c.size).length = c.size := bI.gK (by omega)
    have hcl : cells.length = r.n := by
     show (c.sub 0 c.size ++ List.replicate (r.n - c.size) a9.aA).length = _
     rw [List.length_append, hl0, List.length_replicate]; omega
    have hcg : ∀ j, j < c.size → cells[j]? = some (c.at j) := fun j hj => by
     show (c.sub 0 c.size ++ List.replicate (r.n - c.size) a9.aA)[j]? = _
     rw [List.getElem?_append_left (by omega), bI.wC (c := c) (by omega) hj, Nat.zero_add]
    have hcs : cells.take len = c.sub 0 len := by
     apply List.ext_getElem?
     intro j
     by_cases hj : j < len
     ·rw [List.getElem?_take, if_pos hj, hcg j (by omega), bI.wC (c := c) (by omega) hj, Nat.zero_add]
     ·rw [List.getElem?_eq_none (by rw [List.length_take]; omega), List.getElem?_eq_none (by rw [bI.gK (by omega)]; omega)]
    have rr : Rel E.P ρ m (at0 hh s.next).heap.get w := by
     refine hr.MQ (c2 := cc) hg3 hρ (by show cells.length ≤ _; omega) (fun j hj => ?_) (fun j => rfl)
     have hj : j < cells.length := hj
     by_cases q : j < c.size
     ·refine .inr ⟨q, ?_⟩
      show nth cells j .aA = _
      have := pA cells j hj
      rw [hcg j q] at this
      injection this with this
      exact this.symm
     ·refine .inl ?_
      show nth cells j .aA = _
      have := pA cells j hj
      rw [show cells = c.sub 0 c.size ++ List.replicate (r.n - c.size) a9.aA from rfl, List.getElem?_append_right (by omega), List.getElem?_replicate, if_pos (by omega)] at this
      injection this with this
      exact this.symm
    have hgx' : hh xid = some (.row xc t) := by show (if xid = id then _ else _) = _; rw [if_neg (Ne.symm b5)]; exact hgx
    obtain ⟨v', u, r1, r2, r3⟩ := F6 (W.at_ hh s.next id len r.n k xid cells xc (if_pos rfl) hcl hlC (by omega) c1 c2 (by omega) (by rw [hcs]; exact b7) hgx' hxc hone hxn b0 (Ne.symm b5))
    rw [hcs] at r3
    have hun : u.next ≤ s.next + 1 := by rcases r3 with ⟨_, q, _⟩ | ⟨_, q, _⟩ <;> omega
    refine (nD lD f _ _ _ _ r1 r2 ρ m w _ rr (fun id hid => hfr id ⟨hid.1, by have := hid.2; omega⟩) (MM (.slx id 0 len r.n 1 r hρ hlC) (.int _ _) rY)).imp fun x w' ⟨ρ', p, q⟩ => ?_
    rcases r3 with ⟨rfl, q2, q3, c', q4, q5, q6⟩ | ⟨rfl, q2, q6⟩
    ·have hρ' : ρ' id = some r := p.ren _ _ hρ
     have hnew : ρ' s.next = none := by
      cases he : ρ' s.next with
      | none => rfl
      | some z =>
       rcases p.new s.next (by rw [he]; simp) with y | y
       ·exact absurd (hfr s.next ⟨Nat.le_refl _, by omega⟩) y
       ·have := y.2; simp only [q2] at this; exact absurd this (Nat.lt_irrefl _)
     have hlen : (fB (c.sub 0 len) k (xc.at 0)).length = len + 1 := by rw [j9, bI.gK (by omega)]
     have rel2 := p.rel.MQ (id := id) (c := .l c') (c2 := .l (fB (c.sub 0 len) k (xc.at 0))) (t := t) (r := r) (h' := fun j => if j = id then some (.row (.l (fB (c.sub 0 len) k (xc.at 0))) t) else u.heap.get j) (by rw [q6, if_pos rfl]) hρ'
      (by show (fB (c.sub 0 len) k (xc.at 0)).length ≤ _; omega)
      (fun j hj => by
       have hj : j < len + 1 := by rw [← hlen]; exact hj
       have hj2 : j < c'.length := by omega
       refine .inr ⟨hj2, ?_⟩
       show nth (fB (c.sub 0 len) k (xc.at 0)) j .aA = nth c' j .aA
       have z1 := pA (fB (c.sub 0 len) k (xc.at 0)) j (by omega)
       have z2 := pA c' j hj2
       rw [← q5, List.getElem?_take, if_pos hj, z2] at z1
       injection z1 with z1
       rw [q5] at z1
       exact z1.symm) (fun j => rfl)
     have rel3 := rel2.MP (h' := s'.heap.get) (id := id) (id' := s.next) (b := .row (.l (fB (c.sub 0 len) k (xc.at 0))) t) (r := r) (if_pos rfl) hρ' hnew (fun j => by
      rw [k4 j]
      by_cases y1 : j = s.next
      ·simp [y1]
      ·by_cases y2 : j = id
       ·simp [y1, y2]
       ·simp only [if_neg y1, if_neg y2]
        rw [q6 j, if_neg y2]
        exact (if_neg y2).symm)
     have le2 : gJ ρ' (ρ'.put s.next r) := gJ.put hnew
     refine ⟨ρ'.put s.next r, ⟨fun j z hz => le2 _ _ (p.ren j z hz), fun j hj => ?_, p.mem, rel3, p.fr, by omega⟩, ?_⟩
     ·by_cases y : j = s.next
      ·exact .inr ⟨by omega, by omega⟩
      ·have : ρ' j ≠ none := by unfold Ren.put at hj; rwa [if_neg y] at hj
       exact (p.new j this).imp_right fun z => ⟨z.1, by have := z.2; simp only [q2] at this; omega⟩
     ·cases q with
      | slx _ _ _ C2 _ r2 hρ2 hl2 =>
       rw [hρ'] at hρ2
       injection hρ2 with hρ2
       subst hρ2
       rw [h1]
       exact .slw s.next 0 (len + 1) _ 1 r (by unfold Ren.put; rw [if_pos rfl]) hl2 hs1 (by omega)
    ·refine ⟨ρ', ⟨p.ren, fun id hid => (p.new id hid).imp_right fun z => ⟨z.1, by have := z.2; omega⟩, p.mem, p.rel.sub fun j b hj => ?_, p.fr, by omega⟩, ?_⟩
     ·rw [k4] at hj
      rw [q6]
      by_cases y1 : j = s.next
      ·rw [if_pos y1] at hj ⊢; exact hj
      ·rw [if_neg y1] at hj ⊢
       by_cases y2 : j = id
       ·rw [if_pos y2] at hj; cases hj
       ·rw [if_neg y2] at hj
        show (if j = id then _ else _) = _
        rw [if_neg y2]; exact hj
     ·rw [h1]; exact q
  ·exact (aB g5).elim
 ·exact (aB h).elim
theorem DA {E : Env} {f : FuncId} {act : List a9 → M a9} (W : ∀ args s v s', (act args).run s = .ok v s' → bS s' → fJ s s' ∧ Wp (aQ E (aE E) f args) s.heap.get s.next fun v' h' n' => v' = v ∧ h' = s.heap.get ∧ n' = s.next) : l8 E.P f act := by
 intro args s v s' h ho ρ m w xs hr hfr hx
 obtain ⟨e, hw⟩ := W args s v s' h ho
 obtain ⟨v', t, r1, r2, rfl, r4, r5⟩ := F6 hw
 have rr : Rel E.P ρ m (at0 s.heap.get s.next).heap.get w := hr.congr fun _ => rfl
 have no : ∀ id, ¬ New (at0 s.heap.get s.next) t id := fun id hid => by
  have h1 : s.next ≤ id := hid.1
  have h2 := hid.2
  omega
 refine (nD lD f _ _ _ _ r1 r2 ρ m w _ rr (fun id hid => absurd hid (no id)) hx).imp fun x w' ⟨ρ', p, q⟩ => ?_
 refine ⟨ρ', ⟨p.ren, fun id hid => (p.new id hid).elim .inl fun z => absurd z (no id), p.mem, p.rel.congr fun id => ?_, p.fr, by rw [e.next]; exact Nat.le_refl _⟩, q⟩
 rw [e.heap, r4]
theorem AX {cs : List a9} {l : List UInt8} {s s' : St} (h : (oM cs).run s = .ok l s') (ho : bS s') : fJ s s' ∧ cs.all pH = true ∧ l = cs.map iR := by
 unfold oM at h
 obtain ⟨_, s1, h1, h2, ho1, _, _⟩ := M.aG h ho
 obtain ⟨hall, e1⟩ := dO h1 ho1
 obtain ⟨rfl, rfl⟩ := aC h2
 exact ⟨e1, hall, rfl⟩
theorem yP {a : a9} {l : List UInt8} {s s' : St} (h : (jI a).run s = .ok l s') (ho : bS s') : fJ s s' ∧ ∀ {α : Type} {f : List UInt8 → M α} {n : Nat} {Q : α → Hp → Nat → Prop}, Wp (f l) s.heap.get n Q → Wp ((jI a).bind f) s.heap.get n Q := by
 cases a with
 | aL => obtain ⟨rfl, rfl⟩ := aC h; exact ⟨.refl _, fun hw => by simp only [jI, aD]; exact hw⟩
 | emp => obtain ⟨rfl, rfl⟩ := aC h; exact ⟨.refl _, fun hw => by simp only [jI, aD]; exact hw⟩
 | str l => obtain ⟨rfl, rfl⟩ := aC h; exact ⟨.refl _, fun hw => by simp only [jI, aD]; exact hw⟩
 | sl id off len cap sz =>
  obtain ⟨rfl, h1⟩ := dI h
  obtain ⟨cs, s1, h2, h3, ho1, _, _⟩ := M.aG h1 ho
  obtain ⟨e3, q1, q2⟩ := AX h3 ho
  unfold cL at h2
  obtain ⟨b, s2, h4, h5, ho2, _, _⟩ := M.aG h2 ho1
  obtain ⟨hg, e1⟩ := cV h4
  obtain ⟨c, t, rfl, h6⟩ := iS h5
  obtain ⟨_, s3, h7, h8, ho3, _, _⟩ := M.aG h6 ho1
  obtain ⟨hb, e2⟩ := dO h7 ho3
  obtain ⟨rfl, rfl⟩ := aC h8
  refine ⟨(e1.trans e2).trans e3, fun hw => ?_⟩
  subst q2
  simp only [jI, cL, oM, cB, bind_assoc, eU, hg, Option.some.injEq, exists_eq_left', eG, eP, show (Nat.beq 1 1) = true from rfl, aD, hb, q1, true_and]
  exact hw
 | isl g sz off len =>
  obtain ⟨rfl, h1⟩ := dI h
  obtain ⟨cs, s1, h2, h3, ho1, _, _⟩ := M.aG h1 ho
  obtain ⟨e3, q1, q2⟩ := AX h3 ho
  unfold cL at h2
  obtain ⟨_, s3, h7, h8, ho3, _, _⟩ := M.aG h2 ho1
  obtain ⟨hb, e2⟩ := dO h7 ho3
  obtain ⟨rfl, rfl⟩ := aC h8
  refine ⟨e2.trans e3, fun hw => ?_⟩
  subst q2
  simp only [jI, cL, oM, cB, bind_assoc, eP, show (Nat.beq 1 1) = true from rfl, aD, hb, q1, true_and]
  exact hw
 | _ => exact (aB h).elim
theorem EK {x y : a9} {v : a9} {s s' : St} (h : (cK [x, y]).run s = .ok v s') (ho : bS s') : fJ s s' ∧ Wp (cK [x, y]) s.heap.get s.next fun v' h' n' => v' = v ∧ h' = s.heap.get ∧ n' = s.next := by
 unfold cK at h
 obtain ⟨a, s1, h1, h2, ho1, _, _⟩ := M.aG h ho
 obtain ⟨b, s2, h3, h4, ho2, _, _⟩ := M.aG h2 ho
 obtain ⟨rfl, rfl⟩ := aC h4
 obtain ⟨e1, q1⟩ := yP h1 ho1
 obtain ⟨e2, q2⟩ := yP h3 ho2
 refine ⟨e1.trans e2, ?_⟩
 unfold cK
 refine q1 ?_
 rw [e1.heap] at q2
 exact q2 (aS.2 ⟨rfl, rfl, rfl⟩)
theorem yL {h : Hp} {n : Nat} {x y : a9} {a b : List UInt8} (hx : Bytes h x a) (hy : Bytes h y b) : Rd (cK [x, y]) h n (rid y ++ rid x) (.int .i64 (Lib.compareBytes a b)) := by
 have one : ∀ {v : a9} {l : List UInt8}, Bytes h v l → Rd (jI v) h n (rid v) l := fun {v l} hb => by
  cases hb with
  | aL => exact Rd.pure _
  | isl g off l hf =>
   simp only [jI, cL, oM, cB, show (Nat.beq 1 1) = true from rfl]
   rw [jV g l.length off (l.map u8) (by simp) (fun j hj => by rw [hf j (by simpa using hj)]; simp)]
   refine Rd.bind (i1 := []) (i2 := []) (Rd.bind (i1 := []) (i2 := []) (Rd.ob (cQ (Nat.le_refl _))) (Rd.pure _)) ?_
   refine Rd.bind (i1 := []) (i2 := []) (Rd.ob (wQ l)) ?_
   rw [mQ]
   exact Rd.pure _
  | sl id off cap c e l hh hs hc =>
   have := bI.wV (c := c) (off := off) (l := l.map u8) (by simpa using hs) (fun j hj => by rw [hc j (by simpa using hj)]; simp)
   simp only [List.length_map] at this
   simp only [jI, cL, oM, cB, show (Nat.beq 1 1) = true from rfl]
   refine Rd.bind (i1 := [id]) (i2 := []) (a := l.map u8) (Rd.bind (i1 := [id]) (i2 := []) (Rd.get hh) ?_) ?_
   ·simp only [eG]
    refine Rd.bind (i1 := []) (i2 := []) (Rd.ob (cQ hs)) ?_
    rw [this]
    exact Rd.pure _
   ·refine Rd.bind (i1 := []) (i2 := []) (Rd.ob (wQ l)) ?_
    rw [mQ]
    exact Rd.pure _
 unfold cK
 refine Rd.bind (i2 := rid y) (one hx) ?_
 exact Rd.bind (i1 := rid y) (i2 := []) (one hy) (Rd.pure _)
def rle : Bool → List Nat → List Bool
 | _, [] => []
 | b, n :: l => List.replicate n b ++ rle (!b) l
abbrev T := true
abbrev F := false
end Go.Am
set_option linter.unusedSimpArgs false
set_option linter.unusedVariables false
namespace Go.Am
open Go
variable {E : Env} {h : Hp} {n : Nat}
def eW (b : Nat) : List (a9 × a9) → List Ent
  | [] => []
  | e :: es => (e.1, e.2, b) :: eW (b + 1) es
theorem pM : ∀ (l : List (a9 × a9)) (b : Nat), (eW b l).length = l.length
  | [], _ => rfl
  | _ :: l, b => by simp [eW, pM l]
theorem yD : ∀ (l : List (a9 × a9)) (b i : Nat), (eW b l)[i]? = l[i]?.map fun e => (e.1, e.2, b + i)
  | [], _, _ => by simp [eW]
  | e :: l, b, 0 => by simp [eW]
  | e :: l, b, i + 1 => by
    simp only [eW, List.getElem?_cons_succ, yD l (b + 1) i]
    congr 1
    funext e
    rw [show b + 1 + i = b + (i + 1) by omega]
theorem yE : ∀ (l m : List (a9 × a9)) (b : Nat), eW b (l ++ m) = eW b l ++ eW (b + l.length) m
  | [], m, b => by simp [eW]
  | e :: l, m, b => by simp only [List.cons_append, eW, yE l m (b + 1), List.length_cons]; rw [show b + 1 + l.length = b + (l.length + 1) by omega]
theorem IN : ∀ (l : List (a9 × a9)) (b i j : Nat), i < l.length → sE ((b + i : Nat) : Int) (eW b l) j = some (j + i)
  | [], _, i, _, h => by simp at h
  | e :: l, b, 0, j, _ => by simp [eW, sE]
  | e :: l, b, i + 1, j, h => by
    have : ((b : Int) == ((b + (i + 1) : Nat) : Int)) = false := by
      rw [beq_eq_false_iff_ne]; omega
    simp only [eW, sE, this]
    have := IN l (b + 1) i (j + 1) (by simpa using h)
    rw [show b + (i + 1) = b + 1 + i by omega, this]
    congr 1; omega
theorem yC : ∀ (l : List (a9 × a9)) (b i : Nat) (v : a9), oT (eW b l) i v = eW b (l.modify i fun e => (e.1, v))
  | [], _, i, _ => by cases i <;> rfl
  | e :: l, b, 0, v => by simp [eW, oT]
  | e :: l, b, i + 1, v => by
    have := yC l (b + 1) i v
    simp only [oT] at this
    simp only [eW, oT, List.modify_succ_cons, this]
def dB (p : a9 → Bool) : List (a9 × a9) → Nat → Option (Nat × a9)
  | [], _ => none
  | e :: es, i => if p e.1 then some (i, e.2) else dB p es (i + 1)
theorem lC {kt : TypeId} {k : a9} {p : a9 → Bool} : ∀ (l : List (a9 × a9)) (b i : Nat), (∀ e ∈ l, bU E kt k e.1 = M.pure (p e.1)) → lX E kt k (eW b l) i = M.pure (dB p l i)
  | [], _, _, _ => rfl
  | e :: l, b, i, h => by
    simp only [eW, lX, h e (List.mem_cons_self ..), aD, dB]
    cases p e.1 with
    | true => simp
    | false => simp only [Bool.false_eq_true, if_false]; exact lC l (b + 1) (i + 1) fun e he => h e (List.mem_cons_of_mem _ he)
theorem yU {p : a9 → Bool} : ∀ {l : List (a9 × a9)} {i j : Nat} {v : a9}, dB p l i = some (j, v) → ∃ q k, j = i + q ∧ l[q]? = some (k, v) ∧ p k = true
  | [], _, _, _, h => by simp [dB] at h
  | e :: l, i, j, v, h => by
    simp only [dB] at h
    split at h
    · rename_i c
      injection h with h; injection h with h1 h2
      subst h1; subst h2
      exact ⟨0, e.1, rfl, rfl, c⟩
    · obtain ⟨q, k, h1, h2, h3⟩ := yU h
      exact ⟨q + 1, k, by omega, h2, h3⟩
section
variable {t kt et : TypeId} {k : a9} {p : a9 → Bool} {id b ck : Nat} {l : List (a9 × a9)}
def eF (h : Hp) (id b : Nat) (l : List (a9 × a9)) : Prop := h id = some (.map (eW b l) (b + l.length))
theorem eF.aO {h' : Hp} (m : eF h id b l) (hk : h' id = h id) : eF h' id b l := hk.trans m
theorem eF.lookup (m : eF h id b l) (ht : und E t = M.pure (.map kt et)) (hk : iT E 100 kt k = M.pure ()) (hp : ∀ e ∈ l, bU E kt k e.1 = M.pure (p e.1)) {z : a9} (hz : j3 E et = M.pure z) :
    Rd (iN E t (.map id) k false) h n [id] (((dB p l 0).map (·.2)).getD z) := by
  simp only [iN, ht, aD, GL, bind_assoc]
  have : Rd ((eI id).bind fun a => (kY (fun es _ => M.pure es) a).bind fun es => (iT E 100 kt k).bind fun _ => (lX E kt k es 0).bind fun r => match r with
      | some p => M.pure (okV false p.2 true)
      | none => (j3 E et).bind fun z => M.pure (okV false z false)) h n ([] ++ [id]) (((dB p l 0).map (·.2)).getD z) := by
    refine Rd.bind (Rd.get m) ?_
    simp only [kY, aD, hk, lC l b 0 hp]
    cases dB p l 0 with
    | none => simp only [hz, aD]; exact Rd.pure _
    | some x => exact Rd.pure _
  exact this
theorem eF.KG (m : eF h id b l) (ht : und E t = M.pure (.map kt et)) (hk : iT E 100 kt k = M.pure ()) (hp : ∀ e ∈ l, bU E kt k e.1 = M.pure (p e.1)) {i : Nat} {v : a9} (ha : dB p l 0 = some (i, v)) (hs : ∀ e, l[i]? = some e → jC e.1 k = true) :
    Wr (iM E t (.map id) k) h n [id] [id] (a9.tup [v, .int .i64 ((b + i : Nat) : Int)]) h := by
  have hu : Go.Am.upd h id (some (.map (eW b l) (b + l.length))) = h := jB m
  obtain ⟨q, kk, e1, e2, e3⟩ := yU ha
  rw [Nat.zero_add] at e1
  subst e1
  have key : Wr ((eI id).bind (kY fun es ck => (iT E 100 kt k).bind fun _ => (lX E kt k es 0).bind fun r => match r with
        | some p => (fS "entry" es[p.1]?).bind fun e => match jC e.1 k with
          | true => (jP id (.map es ck)).bind fun _ => M.pure (a9.tup [p.2, .int .i64 e.2.2])
          | false => aY "a key that is not the same bit by bit"
        | none => (j3 E et).bind fun z => (jP id (.map (es ++ [(k, z, ck)]) (ck + 1))).bind fun _ => M.pure (a9.tup [z, .int .i64 ck]))) h n ([] ++ [id]) [id] (a9.tup [v, .int .i64 ((b + i : Nat) : Int)]) (Go.Am.upd h id (some (.map (eW b l) (b + l.length)))) := by
    refine Wr.bind (Rd.get m) ?_
    simp only [kY, hk, aD, lC l b 0 hp, ha, yD, e2, Option.map_some, fS, hs _ e2]
    exact (Wr.set m).ret
  rw [hu] at key
  simp only [iM, ht, aD]
  exact key
theorem eF.KH (m : eF h id b l) (ht : und E t = M.pure (.map kt et)) (hk : iT E 100 kt k = M.pure ()) (hp : ∀ e ∈ l, bU E kt k e.1 = M.pure (p e.1)) (ha : dB p l 0 = none) {z : a9} (hz : j3 E et = M.pure z) :
    ∃ h2, Wr (iM E t (.map id) k) h n [id] [id] (a9.tup [z, .int .i64 ((b + l.length : Nat) : Int)]) h2 ∧ eF h2 id b (l ++ [(k, z)]) ∧ ∀ j, j ≠ id → h2 j = h j := by
  refine ⟨Go.Am.upd h id (some (.map (eW b l ++ [(k, z, b + l.length)]) (b + l.length + 1))), ?_, ?_, fun j hj => aK _ _ hj⟩
  · have key : Wr ((eI id).bind (kY fun es ck => (iT E 100 kt k).bind fun _ => (lX E kt k es 0).bind fun r => match r with
        | some p => (fS "entry" es[p.1]?).bind fun e => match jC e.1 k with
          | true => (jP id (.map es ck)).bind fun _ => M.pure (a9.tup [p.2, .int .i64 e.2.2])
          | false => aY "a key that is not the same bit by bit"
        | none => (j3 E et).bind fun z => (jP id (.map (es ++ [(k, z, ck)]) (ck + 1))).bind fun _ => M.pure (a9.tup [z, .int .i64 ck]))) h n ([] ++ [id]) [id] (a9.tup [z, .int .i64 ((b + l.length : Nat) : Int)]) (Go.Am.upd h id (some (.map (eW b l ++ [(k, z, b + l.length)]) (b + l.length + 1)))) := by
      refine Wr.bind (Rd.get m) ?_
      simp only [kY, hk, aD, lC l b 0 hp, ha, hz]
      exact (Wr.set m).ret
    simp only [iM, ht, aD]
    exact key
  · unfold eF
    rw [aM, yE, List.length_append]
    rfl
theorem eF.store (m : eF h id b l) {i : Nat} (hi : i < l.length) {v : a9} :
    ∃ h2, Wr (gI (.map id) (.int .i64 ((b + i : Nat) : Int)) v) h n [id] [id] undef h2 ∧ eF h2 id b (l.modify i fun e => (e.1, v)) ∧ ∀ j, j ≠ id → h2 j = h j := by
  refine ⟨Go.Am.upd h id (some (.map (oT (eW b l) i v) (b + l.length))), ?_, ?_, fun j hj => aK _ _ hj⟩
  · show Wr _ h n ([] ++ [id]) [id] undef _
    simp only [gI]
    refine Wr.bind (Rd.get m) ?_
    simp only [kY, fR, IN l b i 0 hi, fS, aD, Nat.zero_add]
    exact (Wr.set m).ret
  · unfold eF
    rw [aM, yC, List.length_modify]
theorem eF.clear (m : eF h id b l) {ts : List TypeId} {t0 : TypeId} (ht : und E t0 = M.pure (.map kt et)) : ∃ h2, Wr (pU E (t0 :: ts) (.map id)) h n [id] [id] (a9.tup []) h2 ∧ eF h2 id (b + l.length) [] ∧ ∀ j, j ≠ id → h2 j = h j := by
  refine ⟨Go.Am.upd h id (some (.map [] (b + l.length))), ?_, aM _ _ _, fun j hj => aK _ _ hj⟩
  have : Wr ((eI id).bind (kY fun _ ck => (jP id (.map [] ck)).bind fun _ => M.pure (a9.tup []))) h n ([] ++ [id]) [id] (a9.tup []) (Go.Am.upd h id (some (.map [] (b + l.length)))) := by
    refine Wr.bind (Rd.get m) ?_
    simp only [kY]
    exact (Wr.set m).ret
  simp only [pU, ht, aD]
  exact this
end
end Go.Am
set_option linter.unusedSimpArgs false
set_option linter.unusedVariables false
namespace Go.Am
open Go
variable {E : Env} {h : Hp} {n : Nat}
theorem Rd.wr {m : M a9} {ids : List Nat} {v : a9} (r : Rd m h n ids v) : Wr m h n ids [] v h := by
 refine ⟨fun s hs => ?_⟩
 obtain ⟨s', o, e, a, b, c, d, w, g, q⟩ := r.r s hs
 exact ⟨s', o, e, by rw [a, hs.hp], b, c, d, w, g, q⟩
def Ex (m : M a9) (h : Hp) (n : Nat) (v : a9) (h' : Hp) : Prop := ∃ rs ws, Wr m h n rs ws v h'
theorem Ex.rd {m : M a9} {ids : List Nat} {v : a9} (r : Rd m h n ids v) : Ex m h n v h := ⟨_, _, r.wr⟩
theorem Ex.wr {m : M a9} {rs ws : List Nat} {v : a9} {h' : Hp} (r : Wr m h n rs ws v h') : Ex m h n v h' := ⟨_, _, r⟩
theorem Ex.pure {v : a9} : Ex (M.pure v) h n v h := .rd (.pure v)
theorem kI {rec : Rec} {ops : List Oper} {o : Oper} {tm : List a9} (hg : o.guard = none) : opV E rec ops o tm = execOp E rec tm o.op := by
 unfold opV wanted
 rw [hg]; rfl
section
variable {rec : Rec} {ops : Array Oper} {J : Array Bool → List a9 → Hp → Prop}
theorem N5 (hrec : nI E.P rec)
  (hs : ∀ listed tm h, listed.size = ops.size → J listed tm h → ∀ i o, ops[i]? = some o → listed.getD i false = false → (∀ e ∈ o.after, Region.binds .any e = true → listed.getD e.on false = true) →
   ∃ v h', Ex (opV E rec ops.toList o tm) h n v h' ∧ J (listed.setIfInBounds i true) (bQ tm o.dst v) h')
  (hback : tW 0 ops.toList = true)
  {ρ₀ : Ren} {m : Mem} {w₀ : World} {a₀ : Act} {ro : Option Nat} {nn : Nat} {Q : Exit → Act → World → Prop}
  (hQ : ∀ listed tm h a w ρ, (∀ k, k < ops.size → listed.getD k false = true) → J listed tm h → Rel E.P ρ m h w → RL ρ m tm a.tmps → gJ ρ₀ ρ → (∀ id, ρ id ≠ none → ρ₀ id ≠ none) → Fr w₀ w → a.defers = a₀.defers → Q .normal a w) :
  ∀ (fuel : Nat) (listed : Array Bool), listed.size = ops.size → (listed.toList.filter (!·)).length ≤ fuel → ∀ a w ρ h tm, J listed tm h → Rel E.P ρ m h w → RL ρ m tm a.tmps → gJ ρ₀ ρ → (∀ id, ρ id ≠ none → ρ₀ id ≠ none) → Fr w₀ w → a.defers = a₀.defers →
   wpAnyIn (Fw ro) nn E.P .any ops Q fuel listed a w := by
 intro fuel
 have lst : ∀ (listed : Array Bool), listed.size = ops.size → ∀ k, listed.getD k true = false ↔ (k < ops.size ∧ ¬ listed.getD k false = true) := by
  intro listed hsz k
  by_cases hk : k < ops.size
  ·have : k < listed.size := by omega
   simp [Array.getD, this, hk]
  ·have : ¬ k < listed.size := by omega
   simp [Array.getD, this, hk]
 have done : ∀ (listed : Array Bool), listed.size = ops.size → Region.ready .any ops listed = [] → ∀ k, k < ops.size → listed.getD k false = true := by
  intro listed hsz hr k
  induction k using Nat.strongRecOn with
  | _ k ih =>
   intro hk
   by_cases hl : listed.getD k false = true
   ·exact hl
   ·have ho : ops[k]? = some ops[k] := Array.getElem?_eq_getElem hk
    have : k ∈ Region.ready .any ops listed := mem_ready.2 ⟨(lst listed hsz k).2 ⟨hk, hl⟩, ops[k], ho, fun e he hb => by
     have := sG ops.toList 0 hback k ops[k] (by rw [Array.getElem?_toList]; exact ho) e he hb
     exact ih e.on (by omega) (by omega)⟩
    rw [hr] at this
    cases this
 induction fuel with
 | zero =>
  intro listed hsz hc a w ρ h tm hj hr ht hle hnew hfr hd
  have hr' : Region.ready .any ops listed = [] := by
   cases hr' : Region.ready .any ops listed with
   | nil => rfl
   | cons j l =>
    have hj : j ∈ Region.ready .any ops listed := by rw [hr']; exact List.mem_cons_self
    obtain ⟨h1, o, h2, _⟩ := mem_ready.1 hj
    have hj' := (lst listed hsz j).1 h1
    have hlt : j < listed.size := by omega
    have := sB listed.toList (by omega) j listed[j] (by simp [hlt])
    exfalso
    apply hj'.2
    simp [Array.getD, hlt, this]
  exact ⟨hr', hQ listed tm h a w ρ (done listed hsz hr') hj hr ht hle hnew hfr hd⟩
 | succ fuel ih =>
  intro listed hsz hc a w ρ h tm hj hr ht hle hnew hfr hd
  refine ⟨fun hr' => hQ listed tm h a w ρ (done listed hsz hr') hj hr ht hle hnew hfr hd, fun i hi => ?_⟩
  obtain ⟨h1, o, h2, h3⟩ := mem_ready.1 hi
  have hi' := (lst listed hsz i).1 h1
  unfold wpOpIn
  rw [h2]
  obtain ⟨v, h', ⟨rs, ws, hwr⟩, hj'⟩ := hs listed tm h hsz hj i o h2 (by simpa using hi'.2) h3
  obtain ⟨s', ob, e1, e2, e3, e4, e5, e6, e7, e8⟩ := hwr.r (at0 h n) (m5 h n)
  have hok : bS s' := by unfold bS; rw [e7]; simpa [at0] using e8
  have hnx : s'.next = n := e3
  refine BN hrec e1 hok (s := at0 h n) hr (fun id hid => by
   have h1 : n ≤ id := hid.1
   have h2 : id < s'.next := hid.2
   omega) ht (fun x w' ρ' hpost hx => ?_)
  refine ih (listed.setIfInBounds i true) (by simpa using hsz) ?_ _ w' ρ' h' (bQ tm o.dst v) hj' (by rw [← e2]; exact hpost.rel) (qE (ht.mono hpost.ren hpost.mle) o.dst hx) (fun id r q => hpost.ren id r (hle id r q)) (fun id q => ?_) (hfr.trans hpost.fr) (by rw [Act.lP, hd])
  ·have hlt : i < listed.size := by omega
   have hf : listed.toList[i]? = some false := by
    have : listed.getD i true = listed[i] := by simp [Array.getD, hlt]
    rw [this] at h1
    simp [hlt, h1]
   have := uV listed.toList i hf
   simp only [Array.toList_setIfInBounds]
   omega
  ·rcases hpost.new id q with q | q
   ·exact hnew id q
   ·have h1 : n ≤ id := q.1
    have h2 : id < s'.next := q.2
    omega
end
set_option linter.defProp false
def gE := (And.intro @execOp.eq_1 (And.intro @execOp.eq_2 (And.intro @execOp.eq_3 (And.intro @execOp.eq_4 (And.intro @execOp.eq_5 (And.intro @execOp.eq_6 (And.intro @execOp.eq_7 (And.intro @execOp.eq_8 (And.intro @execOp.eq_9 (And.intro @execOp.eq_10 (And.intro @execOp.eq_11 (And.intro @execOp.eq_12 (And.intro @execOp.eq_13 (And.intro @execOp.eq_14 (And.intro @execOp.eq_15 (And.intro @execOp.eq_16 (And.intro @execOp.eq_17 (And.intro @execOp.eq_18 (And.intro @execOp.eq_19 (And.intro @execOp.eq_20 (And.intro @execOp.eq_21 (And.intro @execOp.eq_22 (And.intro @execOp.eq_23 (And.intro @execOp.eq_24 (And.intro @execOp.eq_25 (And.intro @execOp.eq_26 (And.intro @execOp.eq_27 (And.intro @execOp.eq_28 (And.intro @execOp.eq_29 (And.intro @execOp.eq_30 (And.intro @execOp.eq_31 (And.intro @execOp.eq_32 (And.intro @execOp.eq_33 (And.intro @execOp.eq_34 (And.intro @opd.eq_1 (And.intro @opd.eq_2 (And.intro @opd.eq_3 (And.intro @opd.eq_4 (And.intro @fF.eq_1 (And.intro @fF.eq_2 (And.intro @ofValue.eq_1 (And.intro @ofValue.eq_2 (And.intro @ofValue.eq_3 (And.intro @ofValue.eq_4 (And.intro @ofValue.eq_5 (And.intro @ofValue.eq_6 (And.intro @ofValue.eq_7 (And.intro @ofValue.eq_8 (And.intro @ofValue.eq_9 (And.intro @ofValue.eq_10 (And.intro @ofValue.eq_11 (And.intro @xO.eq_1 (And.intro @ofList.eq_1 (And.intro @ofList.eq_2 (And.intro @zD.eq_1 (And.intro @zD.eq_2 (And.intro @bQ.eq_1 (And.intro @bQ.eq_2 (And.intro @put.eq_1 (And.intro @put.eq_2 (And.intro @put.eq_3 (And.intro @nth.eq_1 (And.intro @nth.eq_2 (And.intro @nth.eq_3 (And.intro @aJ.eq_1 (And.intro @aJ.eq_2 (And.intro @aJ.eq_3 (And.intro @aJ.eq_4 (And.intro @dP.eq_1 (And.intro @qU.eq_1 (And.intro @qU.eq_2 (And.intro @qT.eq_1 (And.intro @qT.eq_2 (And.intro @zX.eq_1 (And.intro @zX.eq_2 (And.intro @und.eq_1 (And.intro @sizeOf.eq_1 (And.intro @j3.eq_1 (And.intro @intOp.eq_1 (And.intro @intOp.eq_2 (And.intro @intOp.eq_3 (And.intro @intOp.eq_4 (And.intro @intOp.eq_5 (And.intro @intOp.eq_6 (And.intro @intOp.eq_7 (And.intro @intOp.eq_8 (And.intro @intOp.eq_9 (And.intro @intOp.eq_10 (And.intro @intOp.eq_11 (And.intro @intOp.eq_12 (And.intro @intOp.eq_13 (And.intro @intOp.eq_14 (And.intro @intOp.eq_15 (And.intro @intOp.eq_16 (And.intro @intOp.eq_17 (And.intro @eX.eq_1 (And.intro @eX.eq_2 (And.intro @fD.eq_1 (And.intro @fD.eq_2 (And.intro @fD.eq_3 (And.intro @mR.eq_1 (And.intro @mR.eq_2 (And.intro @fR.eq_1 (And.intro @fR.eq_2 (And.intro @branch.eq_1 (And.intro @branch.eq_2 (And.intro @branch.eq_3 (And.intro @nilCheck.eq_1 (And.intro @nilCheck.eq_2 (And.intro @nilCheck.eq_3 (And.intro @nilCheck.eq_4 (And.intro @nilCheck.eq_5 (And.intro @nilCheck.eq_6 (And.intro @extract.eq_1 (And.intro @extract.eq_2 (And.intro @fS.eq_1 (And.intro @fS.eq_2 (And.intro @ended.eq_1 (And.intro @dD.eq_1 (And.intro @dD.eq_2 (And.intro @dD.eq_3 (And.intro @dQ.eq_1 (And.intro @dQ.eq_2 (And.intro @fieldAddr.eq_1 (And.intro @field.eq_1 (And.intro @bK (And.intro @pP (And.intro @X1 (And.intro @dV (And.intro @List.getElem?_cons_succ.{0} (And.intro @List.getElem?_cons_zero.{0} (And.intro @List.append_eq.{0} (And.intro @List.cons_append.{0} (And.intro @List.nil_append.{0} (And.intro @List.append_nil.{0} (And.intro @List.length_cons.{0} (And.intro @List.length_nil.{0} (And.intro @not_true_eq_false (And.intro @not_false_eq_true (And.intro @decide_true (And.intro @decide_false (And.intro @Bool.not_true (And.intro @Bool.not_false (And.intro @Bool.and_true (And.intro @Bool.true_and (And.intro @Bool.and_false (And.intro @Bool.false_and (And.intro @Bool.or_true (And.intro @Bool.true_or (And.intro @Bool.or_false (And.intro @Bool.false_or (And.intro @and_true (And.intro @true_and (And.intro @and_self (And.intro @nc0 (And.intro @nc1 (And.intro @qI (And.intro @C4 (And.intro @RT (And.intro @Nat.zero_add (And.intro @Nat.add_zero (And.intro @Int.toNat_zero (And.intro @Nat.zero_mul (And.intro @aS (And.intro @beq_self_eq_true.{0} (And.intro @bne_self_eq_false.{0} (And.intro @oD (And.intro @oE (And.intro @P9 (And.intro @KD (And.intro @P8 (And.intro @ae2 (And.intro @ae5 (And.intro @ae3 (And.intro @ae4 (And.intro @ae1 (And.intro @TP (And.intro @ae0 (And.intro @pJ @P7)))))))))))))))))))))))))))))))))))))))))))))))))))))))))))))))))))))))))))))))))))))))))))))))))))))))))))))))))))))))))))))))))))))))))))))))))))))))))))))))))))))))))))))))))))
def gF := (And.intro @yN (And.intro @yM (And.intro @PZ (And.intro @PY (And.intro @PV (And.intro @PU (And.intro @Q6 (And.intro @Q4 (And.intro @PT (And.intro @Q3 (And.intro @PS (And.intro @PW (And.intro @Q5 (And.intro @PX (And.intro @List.all_cons.{0} (And.intro @List.all_nil.{0} (And.intro @Bool.not_false (And.intro @Bool.true_or (And.intro @Bool.and_true @Bool.true_and)))))))))))))))))))
end Go.Am
set_option maxRecDepth 100000
set_option linter.defProp false
namespace Go.Am.Ytlgebaofkolkoaa.Ins
open Go Go.Am Go.Proofs
noncomputable def ty2 : TE Try.prog := ⟨2, ⟨Try.t2.desc, 1, 8, .int .i64 (0)⟩, ⟨⟨Try.t2, _, rfl, rfl, rfl, rfl, rfl⟩, rfl, rfl, Try.underlying2⟩⟩
noncomputable def ty3 : TE Try.prog := ⟨3, ⟨Try.t3.desc, 1, 8, .int .i64 (0)⟩, ⟨⟨Try.t3, _, rfl, rfl, rfl, rfl, rfl⟩, rfl, rfl, Try.underlying3⟩⟩
noncomputable def ty4 : TE Try.prog := ⟨4, ⟨Try.t4.desc, 1, 1, .bool false⟩, ⟨⟨Try.t4, _, rfl, rfl, rfl, rfl, rfl⟩, rfl, rfl, Try.underlying4⟩⟩
noncomputable def ty5 : TE Try.prog := ⟨5, ⟨Try.t5.desc, 1, 1, .int .u8 (0)⟩, ⟨⟨Try.t5, _, rfl, rfl, rfl, rfl, rfl⟩, rfl, rfl, Try.underlying5⟩⟩
noncomputable def ty9 : TE Try.prog := ⟨9, ⟨Try.t9.desc, 1, 16, .str []⟩, ⟨⟨Try.t9, _, rfl, rfl, rfl, rfl, rfl⟩, rfl, rfl, Try.underlying9⟩⟩
noncomputable def W4 : TE Try.prog := ⟨12, ⟨Try.t12.desc, 1, 8, .int .u64 (0)⟩, ⟨⟨Try.t12, _, rfl, rfl, rfl, rfl, rfl⟩, rfl, rfl, Try.underlying12⟩⟩
noncomputable def W3 : TE Try.prog := ⟨17, ⟨Try.t17.desc, 1, 8, .cY⟩, ⟨⟨Try.t17, _, rfl, rfl, rfl, rfl, rfl⟩, rfl, rfl, Try.underlying17⟩⟩
noncomputable def W2 : TE Try.prog := ⟨21, ⟨Try.t21.desc, 1, 4, .int .i32 (0)⟩, ⟨⟨Try.t21, _, rfl, rfl, rfl, rfl, rfl⟩, rfl, rfl, Try.underlying21⟩⟩
noncomputable def W1 : TE Try.prog := ⟨22, ⟨Try.t22.desc, 1, 8, .cY⟩, ⟨⟨Try.t22, _, rfl, rfl, rfl, rfl, rfl⟩, rfl, rfl, Try.underlying22⟩⟩
noncomputable def W0 : TE Try.prog := ⟨24, ⟨Try.t24.desc, 32, 32, .agg [.int .u8 (0), .int .u8 (0), .int .u8 (0), .int .u8 (0), .int .u8 (0), .int .u8 (0), .int .u8 (0), .int .u8 (0), .int .u8 (0), .int .u8 (0), .int .u8 (0), .int .u8 (0), .int .u8 (0), .int .u8 (0), .int .u8 (0), .int .u8 (0), .int .u8 (0), .int .u8 (0), .int .u8 (0), .int .u8 (0), .int .u8 (0), .int .u8 (0), .int .u8 (0), .int .u8 (0), .int .u8 (0), .int .u8 (0), .int .u8 (0), .int .u8 (0), .int .u8 (0), .int .u8 (0), .int .u8 (0), .int .u8 (0)]⟩, ⟨⟨Try.t24, _, rfl, rfl, rfl, rfl, rfl⟩, rfl, rfl, Try.underlying24⟩⟩
noncomputable def VZ : TE Try.prog := ⟨25, ⟨Try.t24.desc, 32, 32, .agg [.int .u8 (0), .int .u8 (0), .int .u8 (0), .int .u8 (0), .int .u8 (0), .int .u8 (0), .int .u8 (0), .int .u8 (0), .int .u8 (0), .int .u8 (0), .int .u8 (0), .int .u8 (0), .int .u8 (0), .int .u8 (0), .int .u8 (0), .int .u8 (0), .int .u8 (0), .int .u8 (0), .int .u8 (0), .int .u8 (0), .int .u8 (0), .int .u8 (0), .int .u8 (0), .int .u8 (0), .int .u8 (0), .int .u8 (0), .int .u8 (0), .int .u8 (0), .int .u8 (0), .int .u8 (0), .int .u8 (0), .int .u8 (0)]⟩, ⟨⟨Try.t25, _, rfl, rfl, rfl, rfl, rfl⟩, rfl, rfl, Try.underlying25⟩⟩
noncomputable def VY : TE Try.prog := ⟨26, ⟨Try.t26.desc, 1, 4, .int .u32 (0)⟩, ⟨⟨Try.t26, _, rfl, rfl, rfl, rfl, rfl⟩, rfl, rfl, Try.underlying26⟩⟩
noncomputable def VX : TE Try.prog := ⟨27, ⟨Try.t27.desc, 33, 36, .agg [.int .u8 (0), .int .u8 (0), .int .u8 (0), .int .u8 (0), .int .u8 (0), .int .u8 (0), .int .u8 (0), .int .u8 (0), .int .u8 (0), .int .u8 (0), .int .u8 (0), .int .u8 (0), .int .u8 (0), .int .u8 (0), .int .u8 (0), .int .u8 (0), .int .u8 (0), .int .u8 (0), .int .u8 (0), .int .u8 (0), .int .u8 (0), .int .u8 (0), .int .u8 (0), .int .u8 (0), .int .u8 (0), .int .u8 (0), .int .u8 (0), .int .u8 (0), .int .u8 (0), .int .u8 (0), .int .u8 (0), .int .u8 (0), .int .u32 (0)]⟩, ⟨⟨Try.t27, _, rfl, rfl, rfl, rfl, rfl⟩, rfl, rfl, Try.underlying27⟩⟩
noncomputable def J0 : TE Try.prog := ⟨28, ⟨Try.t27.desc, 33, 36, .agg [.int .u8 (0), .int .u8 (0), .int .u8 (0), .int .u8 (0), .int .u8 (0), .int .u8 (0), .int .u8 (0), .int .u8 (0), .int .u8 (0), .int .u8 (0), .int .u8 (0), .int .u8 (0), .int .u8 (0), .int .u8 (0), .int .u8 (0), .int .u8 (0), .int .u8 (0), .int .u8 (0), .int .u8 (0), .int .u8 (0), .int .u8 (0), .int .u8 (0), .int .u8 (0), .int .u8 (0), .int .u8 (0), .int .u8 (0), .int .u8 (0), .int .u8 (0), .int .u8 (0), .int .u8 (0), .int .u8 (0), .int .u8 (0), .int .u32 (0)]⟩, ⟨⟨Try.t28, _, rfl, rfl, rfl, rfl, rfl⟩, rfl, rfl, Try.underlying28⟩⟩
noncomputable def VW : TE Try.prog := ⟨29, ⟨Try.t29.desc, 1, 24, .aL⟩, ⟨⟨Try.t29, _, rfl, rfl, rfl, rfl, rfl⟩, rfl, rfl, Try.underlying29⟩⟩
noncomputable def VV : TE Try.prog := ⟨30, ⟨Try.t30.desc, 70, 128, .agg [.int .u8 (0), .int .u8 (0), .int .u8 (0), .int .u8 (0), .int .u8 (0), .int .u8 (0), .int .u8 (0), .int .u8 (0), .int .u8 (0), .int .u8 (0), .int .u8 (0), .int .u8 (0), .int .u8 (0), .int .u8 (0), .int .u8 (0), .int .u8 (0), .int .u8 (0), .int .u8 (0), .int .u8 (0), .int .u8 (0), .int .u8 (0), .int .u8 (0), .int .u8 (0), .int .u8 (0), .int .u8 (0), .int .u8 (0), .int .u8 (0), .int .u8 (0), .int .u8 (0), .int .u8 (0), .int .u8 (0), .int .u8 (0), .int .u32 (0), .int .i64 (0), .int .i64 (0), .aL, .bool false, .int .i64 (0), .int .u8 (0), .int .u8 (0), .int .u8 (0), .int .u8 (0), .int .u8 (0), .int .u8 (0), .int .u8 (0), .int .u8 (0), .int .u8 (0), .int .u8 (0), .int .u8 (0), .int .u8 (0), .int .u8 (0), .int .u8 (0), .int .u8 (0), .int .u8 (0), .int .u8 (0), .int .u8 (0), .int .u8 (0), .int .u8 (0), .int .u8 (0), .int .u8 (0), .int .u8 (0), .int .u8 (0), .int .u8 (0), .int .u8 (0), .int .u8 (0), .int .u8 (0), .int .u8 (0), .int .u8 (0), .int .u8 (0), .int .u8 (0)]⟩, ⟨⟨Try.t30, _, rfl, rfl, rfl, rfl, rfl⟩, rfl, rfl, Try.underlying30⟩⟩
noncomputable def eQ : TE Try.prog := ⟨31, ⟨Try.t30.desc, 70, 128, .agg [.int .u8 (0), .int .u8 (0), .int .u8 (0), .int .u8 (0), .int .u8 (0), .int .u8 (0), .int .u8 (0), .int .u8 (0), .int .u8 (0), .int .u8 (0), .int .u8 (0), .int .u8 (0), .int .u8 (0), .int .u8 (0), .int .u8 (0), .int .u8 (0), .int .u8 (0), .int .u8 (0), .int .u8 (0), .int .u8 (0), .int .u8 (0), .int .u8 (0), .int .u8 (0), .int .u8 (0), .int .u8 (0), .int .u8 (0), .int .u8 (0), .int .u8 (0), .int .u8 (0), .int .u8 (0), .int .u8 (0), .int .u8 (0), .int .u32 (0), .int .i64 (0), .int .i64 (0), .aL, .bool false, .int .i64 (0), .int .u8 (0), .int .u8 (0), .int .u8 (0), .int .u8 (0), .int .u8 (0), .int .u8 (0), .int .u8 (0), .int .u8 (0), .int .u8 (0), .int .u8 (0), .int .u8 (0), .int .u8 (0), .int .u8 (0), .int .u8 (0), .int .u8 (0), .int .u8 (0), .int .u8 (0), .int .u8 (0), .int .u8 (0), .int .u8 (0), .int .u8 (0), .int .u8 (0), .int .u8 (0), .int .u8 (0), .int .u8 (0), .int .u8 (0), .int .u8 (0), .int .u8 (0), .int .u8 (0), .int .u8 (0), .int .u8 (0), .int .u8 (0)]⟩, ⟨⟨Try.t31, _, rfl, rfl, rfl, rfl, rfl⟩, rfl, rfl, Try.underlying31⟩⟩
noncomputable def VU : TE Try.prog := ⟨32, ⟨Try.t3.desc, 1, 8, .int .i64 (0)⟩, ⟨⟨Try.t32, _, rfl, rfl, rfl, rfl, rfl⟩, rfl, rfl, Try.underlying32⟩⟩
noncomputable def VT : TE Try.prog := ⟨36, ⟨Try.t36.desc, 1, 24, .aL⟩, ⟨⟨Try.t36, _, rfl, rfl, rfl, rfl, rfl⟩, rfl, rfl, Try.underlying36⟩⟩
noncomputable def VS : TE Try.prog := ⟨40, ⟨Try.t40.desc, 2, 32, .agg [.aL, .int .i64 (0)]⟩, ⟨⟨Try.t40, _, rfl, rfl, rfl, rfl, rfl⟩, rfl, rfl, Try.underlying40⟩⟩
noncomputable def RK : TE Try.prog := ⟨41, ⟨Try.t40.desc, 2, 32, .agg [.aL, .int .i64 (0)]⟩, ⟨⟨Try.t41, _, rfl, rfl, rfl, rfl, rfl⟩, rfl, rfl, Try.underlying41⟩⟩
noncomputable def VR : TE Try.prog := ⟨43, ⟨Try.t43.desc, 1, 24, .aL⟩, ⟨⟨Try.t43, _, rfl, rfl, rfl, rfl, rfl⟩, rfl, rfl, Try.underlying43⟩⟩
noncomputable def VQ : TE Try.prog := ⟨44, ⟨Try.t44.desc, 1, 24, .aL⟩, ⟨⟨Try.t44, _, rfl, rfl, rfl, rfl, rfl⟩, rfl, rfl, Try.underlying44⟩⟩
noncomputable def VP : TE Try.prog := ⟨45, ⟨Try.t45.desc, 37, 104, .agg [.int .i64 (0), .int .u8 (0), .int .u8 (0), .int .u8 (0), .int .u8 (0), .int .u8 (0), .int .u8 (0), .int .u8 (0), .int .u8 (0), .int .u8 (0), .int .u8 (0), .int .u8 (0), .int .u8 (0), .int .u8 (0), .int .u8 (0), .int .u8 (0), .int .u8 (0), .int .u8 (0), .int .u8 (0), .int .u8 (0), .int .u8 (0), .int .u8 (0), .int .u8 (0), .int .u8 (0), .int .u8 (0), .int .u8 (0), .int .u8 (0), .int .u8 (0), .int .u8 (0), .int .u8 (0), .int .u8 (0), .int .u8 (0), .int .u8 (0), .aL, .aL, .int .i64 (0), .int .i64 (0)]⟩, ⟨⟨Try.t45, _, rfl, rfl, rfl, rfl, rfl⟩, rfl, rfl, Try.underlying45⟩⟩
noncomputable def VO : TE Try.prog := ⟨46, ⟨Try.t45.desc, 37, 104, .agg [.int .i64 (0), .int .u8 (0), .int .u8 (0), .int .u8 (0), .int .u8 (0), .int .u8 (0), .int .u8 (0), .int .u8 (0), .int .u8 (0), .int .u8 (0), .int .u8 (0), .int .u8 (0), .int .u8 (0), .int .u8 (0), .int .u8 (0), .int .u8 (0), .int .u8 (0), .int .u8 (0), .int .u8 (0), .int .u8 (0), .int .u8 (0), .int .u8 (0), .int .u8 (0), .int .u8 (0), .int .u8 (0), .int .u8 (0), .int .u8 (0), .int .u8 (0), .int .u8 (0), .int .u8 (0), .int .u8 (0), .int .u8 (0), .int .u8 (0), .aL, .aL, .int .i64 (0), .int .i64 (0)]⟩, ⟨⟨Try.t46, _, rfl, rfl, rfl, rfl, rfl⟩, rfl, rfl, Try.underlying46⟩⟩
noncomputable def VN : TE Try.prog := ⟨47, ⟨Try.t47.desc, 65, 68, .agg [.int .u8 (0), .int .u8 (0), .int .u8 (0), .int .u8 (0), .int .u8 (0), .int .u8 (0), .int .u8 (0), .int .u8 (0), .int .u8 (0), .int .u8 (0), .int .u8 (0), .int .u8 (0), .int .u8 (0), .int .u8 (0), .int .u8 (0), .int .u8 (0), .int .u8 (0), .int .u8 (0), .int .u8 (0), .int .u8 (0), .int .u8 (0), .int .u8 (0), .int .u8 (0), .int .u8 (0), .int .u8 (0), .int .u8 (0), .int .u8 (0), .int .u8 (0), .int .u8 (0), .int .u8 (0), .int .u8 (0), .int .u8 (0), .int .u32 (0), .int .u8 (0), .int .u8 (0), .int .u8 (0), .int .u8 (0), .int .u8 (0), .int .u8 (0), .int .u8 (0), .int .u8 (0), .int .u8 (0), .int .u8 (0), .int .u8 (0), .int .u8 (0), .int .u8 (0), .int .u8 (0), .int .u8 (0), .int .u8 (0), .int .u8 (0), .int .u8 (0), .int .u8 (0), .int .u8 (0), .int .u8 (0), .int .u8 (0), .int .u8 (0), .int .u8 (0), .int .u8 (0), .int .u8 (0), .int .u8 (0), .int .u8 (0), .int .u8 (0), .int .u8 (0), .int .u8 (0), .int .u8 (0)]⟩, ⟨⟨Try.t47, _, rfl, rfl, rfl, rfl, rfl⟩, rfl, rfl, Try.underlying47⟩⟩
noncomputable def B8 : TE Try.prog := ⟨48, ⟨Try.t47.desc, 65, 68, .agg [.int .u8 (0), .int .u8 (0), .int .u8 (0), .int .u8 (0), .int .u8 (0), .int .u8 (0), .int .u8 (0), .int .u8 (0), .int .u8 (0), .int .u8 (0), .int .u8 (0), .int .u8 (0), .int .u8 (0), .int .u8 (0), .int .u8 (0), .int .u8 (0), .int .u8 (0), .int .u8 (0), .int .u8 (0), .int .u8 (0), .int .u8 (0), .int .u8 (0), .int .u8 (0), .int .u8 (0), .int .u8 (0), .int .u8 (0), .int .u8 (0), .int .u8 (0), .int .u8 (0), .int .u8 (0), .int .u8 (0), .int .u8 (0), .int .u32 (0), .int .u8 (0), .int .u8 (0), .int .u8 (0), .int .u8 (0), .int .u8 (0), .int .u8 (0), .int .u8 (0), .int .u8 (0), .int .u8 (0), .int .u8 (0), .int .u8 (0), .int .u8 (0), .int .u8 (0), .int .u8 (0), .int .u8 (0), .int .u8 (0), .int .u8 (0), .int .u8 (0), .int .u8 (0), .int .u8 (0), .int .u8 (0), .int .u8 (0), .int .u8 (0), .int .u8 (0), .int .u8 (0), .int .u8 (0), .int .u8 (0), .int .u8 (0), .int .u8 (0), .int .u8 (0), .int .u8 (0), .int .u8 (0)]⟩, ⟨⟨Try.t48, _, rfl, rfl, rfl, rfl, rfl⟩, rfl, rfl, Try.underlying48⟩⟩
noncomputable def VM : TE Try.prog := ⟨56, ⟨Try.t56.desc, 1, 8, .cY⟩, ⟨⟨Try.t56, _, rfl, rfl, rfl, rfl, rfl⟩, rfl, rfl, Try.underlying56⟩⟩
noncomputable def RJ : TE Try.prog := ⟨57, ⟨Try.t57.desc, 1, 24, .aL⟩, ⟨⟨Try.t57, _, rfl, rfl, rfl, rfl, rfl⟩, rfl, rfl, Try.underlying57⟩⟩
noncomputable def VK : TE Try.prog := ⟨58, ⟨Try.t58.desc, 2, 32, .agg [.cY, .aL]⟩, ⟨⟨Try.t58, _, rfl, rfl, rfl, rfl, rfl⟩, rfl, rfl, Try.underlying58⟩⟩
noncomputable def VJ : TE Try.prog := ⟨59, ⟨Try.t58.desc, 2, 32, .agg [.cY, .aL]⟩, ⟨⟨Try.t59, _, rfl, rfl, rfl, rfl, rfl⟩, rfl, rfl, Try.underlying59⟩⟩
noncomputable def VI : TE Try.prog := ⟨60, ⟨Try.t60.desc, 37, 72, .agg [.int .i64 (0), .int .u8 (0), .int .u8 (0), .int .u8 (0), .int .u8 (0), .int .u8 (0), .int .u8 (0), .int .u8 (0), .int .u8 (0), .int .u8 (0), .int .u8 (0), .int .u8 (0), .int .u8 (0), .int .u8 (0), .int .u8 (0), .int .u8 (0), .int .u8 (0), .int .u8 (0), .int .u8 (0), .int .u8 (0), .int .u8 (0), .int .u8 (0), .int .u8 (0), .int .u8 (0), .int .u8 (0), .int .u8 (0), .int .u8 (0), .int .u8 (0), .int .u8 (0), .int .u8 (0), .int .u8 (0), .int .u8 (0), .int .u8 (0), .int .i64 (0), .int .i64 (0), .int .i64 (0), .int .i64 (0)]⟩, ⟨⟨Try.t60, _, rfl, rfl, rfl, rfl, rfl⟩, rfl, rfl, Try.underlying60⟩⟩
noncomputable def uC : TE Try.prog := ⟨61, ⟨Try.t60.desc, 37, 72, .agg [.int .i64 (0), .int .u8 (0), .int .u8 (0), .int .u8 (0), .int .u8 (0), .int .u8 (0), .int .u8 (0), .int .u8 (0), .int .u8 (0), .int .u8 (0), .int .u8 (0), .int .u8 (0), .int .u8 (0), .int .u8 (0), .int .u8 (0), .int .u8 (0), .int .u8 (0), .int .u8 (0), .int .u8 (0), .int .u8 (0), .int .u8 (0), .int .u8 (0), .int .u8 (0), .int .u8 (0), .int .u8 (0), .int .u8 (0), .int .u8 (0), .int .u8 (0), .int .u8 (0), .int .u8 (0), .int .u8 (0), .int .u8 (0), .int .u8 (0), .int .i64 (0), .int .i64 (0), .int .i64 (0), .int .i64 (0)]⟩, ⟨⟨Try.t61, _, rfl, rfl, rfl, rfl, rfl⟩, rfl, rfl, Try.underlying61⟩⟩
noncomputable def VH : TE Try.prog := ⟨95, ⟨Try.t95.desc, 1, 24, .aL⟩, ⟨⟨Try.t95, _, rfl, rfl, rfl, rfl, rfl⟩, rfl, rfl, Try.underlying95⟩⟩
noncomputable def VG : TE Try.prog := ⟨96, ⟨Try.t96.desc, 1, 8, .cE⟩, ⟨⟨Try.t96, _, rfl, rfl, rfl, rfl, rfl⟩, rfl, rfl, Try.underlying96⟩⟩
noncomputable def VF : TE Try.prog := ⟨97, ⟨Try.t97.desc, 2, 32, .agg [.aL, .cE]⟩, ⟨⟨Try.t97, _, rfl, rfl, rfl, rfl, rfl⟩, rfl, rfl, Try.underlying97⟩⟩
noncomputable def VE : TE Try.prog := ⟨98, ⟨Try.t97.desc, 2, 32, .agg [.aL, .cE]⟩, ⟨⟨Try.t98, _, rfl, rfl, rfl, rfl, rfl⟩, rfl, rfl, Try.underlying98⟩⟩
noncomputable def VD : TE Try.prog := ⟨99, ⟨Try.t99.desc, 5, 72, .agg [.bool false, .aL, .cE, .aL, .cE]⟩, ⟨⟨Try.t99, _, rfl, rfl, rfl, rfl, rfl⟩, rfl, rfl, Try.underlying99⟩⟩
noncomputable def LK : TE Try.prog := ⟨100, ⟨Try.t99.desc, 5, 72, .agg [.bool false, .aL, .cE, .aL, .cE]⟩, ⟨⟨Try.t100, _, rfl, rfl, rfl, rfl, rfl⟩, rfl, rfl, Try.underlying100⟩⟩
noncomputable def LJ : TE Try.prog := ⟨104, ⟨Try.t104.desc, 40, 128, .agg [.int .i64 (0), .int .i64 (0), .int .u8 (0), .int .u8 (0), .int .u8 (0), .int .u8 (0), .int .u8 (0), .int .u8 (0), .int .u8 (0), .int .u8 (0), .int .u8 (0), .int .u8 (0), .int .u8 (0), .int .u8 (0), .int .u8 (0), .int .u8 (0), .int .u8 (0), .int .u8 (0), .int .u8 (0), .int .u8 (0), .int .u8 (0), .int .u8 (0), .int .u8 (0), .int .u8 (0), .int .u8 (0), .int .u8 (0), .int .u8 (0), .int .u8 (0), .int .u8 (0), .int .u8 (0), .int .u8 (0), .int .u8 (0), .int .u8 (0), .int .u8 (0), .aL, .aL, .int .i64 (0), .int .i64 (0), .bool false, .int .i64 (0)]⟩, ⟨⟨Try.t104, _, rfl, rfl, rfl, rfl, rfl⟩, rfl, rfl, Try.underlying104⟩⟩
noncomputable def LI : TE Try.prog := ⟨115, ⟨Try.t115.desc, 1, 8, .kX⟩, ⟨⟨Try.t115, _, rfl, rfl, rfl, rfl, rfl⟩, rfl, rfl, Try.underlying115⟩⟩
noncomputable def oK : TE Try.prog := ⟨128, ⟨Try.t128.desc, 1, 8, .cY⟩, ⟨⟨Try.t128, _, rfl, rfl, rfl, rfl, rfl⟩, rfl, rfl, Try.underlying128⟩⟩
noncomputable def LH : TE Try.prog := ⟨147, ⟨Try.t147.desc, 1, 24, .aL⟩, ⟨⟨Try.t147, _, rfl, rfl, rfl, rfl, rfl⟩, rfl, rfl, Try.underlying147⟩⟩
noncomputable def LG : TE Try.prog := ⟨161, ⟨Try.t161.desc, 1, 8, .kX⟩, ⟨⟨Try.t161, _, rfl, rfl, rfl, rfl, rfl⟩, rfl, rfl, Try.underlying161⟩⟩
noncomputable def LF : TE Try.prog := ⟨176, ⟨Try.t5.desc, 1, 1, .int .u8 (0)⟩, ⟨⟨Try.t176, _, rfl, rfl, rfl, rfl, rfl⟩, rfl, rfl, Try.underlying176⟩⟩
noncomputable def LD : TE Try.prog := ⟨177, ⟨Try.t5.desc, 1, 1, .int .u8 (0)⟩, ⟨⟨Try.t177, _, rfl, rfl, rfl, rfl, rfl⟩, rfl, rfl, Try.underlying177⟩⟩
noncomputable def LC : TE Try.prog := ⟨178, ⟨Try.t178.desc, 1, 8, .cE⟩, ⟨⟨Try.t178, _, rfl, rfl, rfl, rfl, rfl⟩, rfl, rfl, Try.underlying178⟩⟩
noncomputable def LB : TE Try.prog := ⟨179, ⟨Try.t179.desc, 1, 8, .cY⟩, ⟨⟨Try.t179, _, rfl, rfl, rfl, rfl, rfl⟩, rfl, rfl, Try.underlying179⟩⟩
noncomputable def LA : TE Try.prog := ⟨180, ⟨Try.t21.desc, 1, 4, .int .i32 (0)⟩, ⟨⟨Try.t180, _, rfl, rfl, rfl, rfl, rfl⟩, rfl, rfl, Try.underlying180⟩⟩
noncomputable def L9 : TE Try.prog := ⟨181, ⟨Try.t21.desc, 1, 4, .int .i32 (0)⟩, ⟨⟨Try.t181, _, rfl, rfl, rfl, rfl, rfl⟩, rfl, rfl, Try.underlying181⟩⟩
noncomputable def L8 : TE Try.prog := ⟨182, ⟨Try.t182.desc, 11, 48, .agg [.int .u64 (0), .int .u64 (0), .int .u32 (0), .int .u8 (0), .int .u8 (0), .int .u8 (0), .int .u8 (0), .cE, .cY, .int .i32 (0), .int .i32 (0)]⟩, ⟨⟨Try.t182, _, rfl, rfl, rfl, rfl, rfl⟩, rfl, rfl, Try.underlying182⟩⟩
noncomputable def L7 : TE Try.prog := ⟨183, ⟨Try.t182.desc, 11, 48, .agg [.int .u64 (0), .int .u64 (0), .int .u32 (0), .int .u8 (0), .int .u8 (0), .int .u8 (0), .int .u8 (0), .cE, .cY, .int .i32 (0), .int .i32 (0)]⟩, ⟨⟨Try.t183, _, rfl, rfl, rfl, rfl, rfl⟩, rfl, rfl, Try.underlying183⟩⟩
noncomputable def K8 : FE Try.prog := ⟨17, ⟨Try.f17.body.getD .skip, 85, [.tmp 6, .tmp 7], some (rle true [3, 3, 2, 1, 2, 1, 6, 7, 1, 7, 4, 19, 1, 1, 1, 1, 1, 11, 1, 12])⟩, ⟨⟨Try.f17, Try.func17, rfl, rfl, rfl⟩, Try.call17⟩⟩
noncomputable def ac4 : FE Try.prog := ⟨20, ⟨Try.f20.body.getD .skip, 11, [.tmp 2], some (rle true [1, 1, 1, 1, 1, 6])⟩, ⟨⟨Try.f20, Try.func20, rfl, rfl, rfl⟩, Try.call20⟩⟩
noncomputable def xZ : FE Try.prog := ⟨63, ⟨Try.f63.body.getD .skip, 18, [.tmp 2], some (rle true [1, 1, 2, 1, 5, 4, 1, 3])⟩, ⟨⟨Try.f63, Try.func63, rfl, rfl, rfl⟩, Try.call63⟩⟩
noncomputable def E2 : FE Try.prog := ⟨64, ⟨Try.f64.body.getD .skip, 20, [.tmp 4], some (rle true [2, 2, 3, 4, 3, 2, 1, 2, 1])⟩, ⟨⟨Try.f64, Try.func64, rfl, rfl, rfl⟩, Try.call64⟩⟩
noncomputable def K7 : FE Try.prog := ⟨65, ⟨Try.f65.body.getD .skip, 8, [.tmp 4], some (rle true [2, 2, 1, 3])⟩, ⟨⟨Try.f65, Try.func65, rfl, rfl, rfl⟩, Try.call65⟩⟩
noncomputable def GB : FE Try.prog := ⟨66, ⟨Try.f66.body.getD .skip, 12, [.tmp 2], some (rle true [1, 1, 1, 9])⟩, ⟨⟨Try.f66, Try.func66, rfl, rfl, rfl⟩, Try.call66⟩⟩
noncomputable def K6 : FE Try.prog := ⟨97, ⟨Try.f97.body.getD .skip, 6, [.tmp 2], some (rle true [1, 1, 1, 3])⟩, ⟨⟨Try.f97, Try.func97, rfl, rfl, rfl⟩, Try.call97⟩⟩
noncomputable def K4 : FE Try.prog := ⟨98, ⟨Try.f98.body.getD .skip, 8, [.tmp 4], some (rle true [2, 2, 1, 3])⟩, ⟨⟨Try.f98, Try.func98, rfl, rfl, rfl⟩, Try.call98⟩⟩
noncomputable def AJ : FE Try.prog := ⟨104, ⟨Try.f104.body.getD .skip, 95, [.tmp 6], some (rle true [3, 3, 4, 6, 1, 5, 1, 8, 1, 36, 1, 26])⟩, ⟨⟨Try.f104, Try.func104, rfl, rfl, rfl⟩, Try.call104⟩⟩
noncomputable def OY : FE Try.prog := ⟨108, ⟨Try.f108.body.getD .skip, 8, [.tmp 4], some (rle true [2, 2, 1, 3])⟩, ⟨⟨Try.f108, Try.func108, rfl, rfl, rfl⟩, Try.call108⟩⟩
noncomputable def OJ : vB Try.prog := ⟨112, cK, mD Try.func112 (by kernel_rfl) (by kernel_rfl) (by kernel_rfl) (by kernel_rfl)⟩
noncomputable def OI : vB Try.prog := ⟨115, (gG 128), sO (tS := 95) (tR := 4) (e := 128) (size := 1) Try.func115 (by kernel_rfl) (by kernel_rfl) (by kernel_rfl) (by kernel_rfl) Try.underlying95 (fun w => oK.ok.cS) (fun h => TypeDesc.noConfusion (Option.some.inj (Try.underlying128.symm.trans h)))⟩
noncomputable def OH : vB Try.prog := ⟨119, cK, mD Try.func119 (by kernel_rfl) (by kernel_rfl) (by kernel_rfl) (by kernel_rfl)⟩
noncomputable def eqs : List (QE Try.prog) := [⟨25, by kernel_rfl, by kernel_rfl⟩, ⟨28, by kernel_rfl, by kernel_rfl⟩, ⟨61, by kernel_rfl, by kernel_rfl⟩]
noncomputable def env : Env := { P := Try.prog, I1 := by kernel_rfl, types := (.node 48 (.node 28 (.node 17 (.node 5 (.node 3 (.leaf ty2) (.node 4 (.leaf ty3) (.leaf ty4))) (.node 9 (.leaf ty5) (.node 12 (.leaf ty9) (.leaf W4)))) (.node 24 (.node 21 (.leaf W3) (.node 22 (.leaf W2) (.leaf W1))) (.node 26 (.node 25 (.leaf W0) (.leaf VZ)) (.node 27 (.leaf VY) (.leaf VX))))) (.node 40 (.node 31 (.node 29 (.leaf J0) (.node 30 (.leaf VW) (.leaf VV))) (.node 32 (.leaf eQ) (.node 36 (.leaf VU) (.leaf VT)))) (.node 44 (.node 41 (.leaf VS) (.node 43 (.leaf RK) (.leaf VR))) (.node 46 (.node 45 (.leaf VQ) (.leaf VP)) (.node 47 (.leaf VO) (.leaf VN)))))) (.node 104 (.node 61 (.node 58 (.node 56 (.leaf B8) (.node 57 (.leaf VM) (.leaf RJ))) (.node 59 (.leaf VK) (.node 60 (.leaf VJ) (.leaf VI)))) (.node 97 (.node 95 (.leaf uC) (.node 96 (.leaf VH) (.leaf VG))) (.node 99 (.node 98 (.leaf VF) (.leaf VE)) (.node 100 (.leaf VD) (.leaf LK))))) (.node 177 (.node 147 (.node 115 (.leaf LJ) (.node 128 (.leaf LI) (.leaf oK))) (.node 161 (.leaf LH) (.node 176 (.leaf LG) (.leaf LF)))) (.node 180 (.node 178 (.leaf LD) (.node 179 (.leaf LC) (.leaf LB))) (.node 182 (.node 181 (.leaf LA) (.leaf L9)) (.node 183 (.leaf L8) (.leaf L7))))))), funcs := (.node 66 (.node 63 (.node 20 (.leaf K8) (.leaf ac4)) (.node 64 (.leaf xZ) (.node 65 (.leaf E2) (.leaf K7)))) (.node 98 (.node 97 (.leaf GB) (.leaf K6)) (.node 104 (.leaf K4) (.node 108 (.leaf AJ) (.leaf OY))))), DW := [OJ, OI, OH], eqs := eqs }
theorem YF : ∀ k, bF env.bE 17 k = true := fun _ => rfl
theorem YC : ∀ k, bF env.bE 20 k = true := fun _ => rfl
theorem FP : ∀ k, bF env.bE 63 k = true := fun _ => rfl
theorem FO : ∀ k, bF env.bE 64 k = true := fun _ => rfl
theorem FN : ∀ k, bF env.bE 65 k = true := fun _ => rfl
theorem FM : ∀ k, bF env.bE 66 k = true := fun _ => rfl
theorem FL : ∀ k, bF env.bE 97 k = true := fun _ => rfl
theorem FK : ∀ k, bF env.bE 98 k = true := fun _ => rfl
theorem SS : ∀ k, bF env.bE 104 k = true := fun _ => rfl
theorem SO : ∀ k, bF env.bE 108 k = true := fun _ => rfl
theorem ti2 : ti env 2 = M.pure ⟨Go.TypeDesc.int (Go.IntKind.i64), 1, 8, .int .i64 (0)⟩ := rfl
theorem ti3 : ti env 3 = M.pure ⟨Go.TypeDesc.int (Go.IntKind.i64), 1, 8, .int .i64 (0)⟩ := rfl
theorem ti4 : ti env 4 = M.pure ⟨Go.TypeDesc.bool, 1, 1, .bool false⟩ := rfl
theorem ti5 : ti env 5 = M.pure ⟨Go.TypeDesc.int (Go.IntKind.u8), 1, 1, .int .u8 (0)⟩ := rfl
theorem ti9 : ti env 9 = M.pure ⟨Go.TypeDesc.string, 1, 16, .str []⟩ := rfl
theorem WK : ti env 12 = M.pure ⟨Go.TypeDesc.int (Go.IntKind.u64), 1, 8, .int .u64 (0)⟩ := rfl
theorem WJ : ti env 17 = M.pure ⟨Go.TypeDesc.pointer 183, 1, 8, .cY⟩ := rfl
theorem WI : ti env 21 = M.pure ⟨Go.TypeDesc.int (Go.IntKind.i32), 1, 4, .int .i32 (0)⟩ := rfl
theorem J2 : ti env 22 = M.pure ⟨Go.TypeDesc.pointer 59, 1, 8, .cY⟩ := rfl
theorem WH : ti env 24 = M.pure ⟨Go.TypeDesc.array 32 5, 32, 32, .agg [.int .u8 (0), .int .u8 (0), .int .u8 (0), .int .u8 (0), .int .u8 (0), .int .u8 (0), .int .u8 (0), .int .u8 (0), .int .u8 (0), .int .u8 (0), .int .u8 (0), .int .u8 (0), .int .u8 (0), .int .u8 (0), .int .u8 (0), .int .u8 (0), .int .u8 (0), .int .u8 (0), .int .u8 (0), .int .u8 (0), .int .u8 (0), .int .u8 (0), .int .u8 (0), .int .u8 (0), .int .u8 (0), .int .u8 (0), .int .u8 (0), .int .u8 (0), .int .u8 (0), .int .u8 (0), .int .u8 (0), .int .u8 (0)]⟩ := rfl
theorem nK : ti env 25 = M.pure ⟨Go.TypeDesc.array 32 5, 32, 32, .agg [.int .u8 (0), .int .u8 (0), .int .u8 (0), .int .u8 (0), .int .u8 (0), .int .u8 (0), .int .u8 (0), .int .u8 (0), .int .u8 (0), .int .u8 (0), .int .u8 (0), .int .u8 (0), .int .u8 (0), .int .u8 (0), .int .u8 (0), .int .u8 (0), .int .u8 (0), .int .u8 (0), .int .u8 (0), .int .u8 (0), .int .u8 (0), .int .u8 (0), .int .u8 (0), .int .u8 (0), .int .u8 (0), .int .u8 (0), .int .u8 (0), .int .u8 (0), .int .u8 (0), .int .u8 (0), .int .u8 (0), .int .u8 (0)]⟩ := rfl
theorem uG : ti env 26 = M.pure ⟨Go.TypeDesc.int (Go.IntKind.u32), 1, 4, .int .u32 (0)⟩ := rfl
theorem WG : ti env 27 = M.pure ⟨Go.TypeDesc.struct #[⟨"Tx", 25, 0, false, "", "", 0⟩, ⟨"N", 26, 32, false, "", "", 32⟩], 33, 36, .agg [.int .u8 (0), .int .u8 (0), .int .u8 (0), .int .u8 (0), .int .u8 (0), .int .u8 (0), .int .u8 (0), .int .u8 (0), .int .u8 (0), .int .u8 (0), .int .u8 (0), .int .u8 (0), .int .u8 (0), .int .u8 (0), .int .u8 (0), .int .u8 (0), .int .u8 (0), .int .u8 (0), .int .u8 (0), .int .u8 (0), .int .u8 (0), .int .u8 (0), .int .u8 (0), .int .u8 (0), .int .u8 (0), .int .u8 (0), .int .u8 (0), .int .u8 (0), .int .u8 (0), .int .u8 (0), .int .u8 (0), .int .u8 (0), .int .u32 (0)]⟩ := rfl
theorem jJ : ti env 28 = M.pure ⟨Go.TypeDesc.struct #[⟨"Tx", 25, 0, false, "", "", 0⟩, ⟨"N", 26, 32, false, "", "", 32⟩], 33, 36, .agg [.int .u8 (0), .int .u8 (0), .int .u8 (0), .int .u8 (0), .int .u8 (0), .int .u8 (0), .int .u8 (0), .int .u8 (0), .int .u8 (0), .int .u8 (0), .int .u8 (0), .int .u8 (0), .int .u8 (0), .int .u8 (0), .int .u8 (0), .int .u8 (0), .int .u8 (0), .int .u8 (0), .int .u8 (0), .int .u8 (0), .int .u8 (0), .int .u8 (0), .int .u8 (0), .int .u8 (0), .int .u8 (0), .int .u8 (0), .int .u8 (0), .int .u8 (0), .int .u8 (0), .int .u8 (0), .int .u8 (0), .int .u8 (0), .int .u32 (0)]⟩ := rfl
theorem vP : ti env 29 = M.pure ⟨Go.TypeDesc.slice 5, 1, 24, .aL⟩ := rfl
theorem WE : ti env 30 = M.pure ⟨Go.TypeDesc.struct #[⟨"Point", 28, 0, false, "", "", 0⟩, ⟨"Made", 3, 33, false, "", "", 40⟩, ⟨"Value", 2, 34, false, "", "", 48⟩, ⟨"Script", 29, 35, false, "", "", 56⟩, ⟨"Base", 4, 36, false, "", "", 80⟩, ⟨"Spent", 3, 37, false, "", "", 88⟩, ⟨"Spender", 25, 38, false, "", "", 96⟩], 70, 128, .agg [.int .u8 (0), .int .u8 (0), .int .u8 (0), .int .u8 (0), .int .u8 (0), .int .u8 (0), .int .u8 (0), .int .u8 (0), .int .u8 (0), .int .u8 (0), .int .u8 (0), .int .u8 (0), .int .u8 (0), .int .u8 (0), .int .u8 (0), .int .u8 (0), .int .u8 (0), .int .u8 (0), .int .u8 (0), .int .u8 (0), .int .u8 (0), .int .u8 (0), .int .u8 (0), .int .u8 (0), .int .u8 (0), .int .u8 (0), .int .u8 (0), .int .u8 (0), .int .u8 (0), .int .u8 (0), .int .u8 (0), .int .u8 (0), .int .u32 (0), .int .i64 (0), .int .i64 (0), .aL, .bool false, .int .i64 (0), .int .u8 (0), .int .u8 (0), .int .u8 (0), .int .u8 (0), .int .u8 (0), .int .u8 (0), .int .u8 (0), .int .u8 (0), .int .u8 (0), .int .u8 (0), .int .u8 (0), .int .u8 (0), .int .u8 (0), .int .u8 (0), .int .u8 (0), .int .u8 (0), .int .u8 (0), .int .u8 (0), .int .u8 (0), .int .u8 (0), .int .u8 (0), .int .u8 (0), .int .u8 (0), .int .u8 (0), .int .u8 (0), .int .u8 (0), .int .u8 (0), .int .u8 (0), .int .u8 (0), .int .u8 (0), .int .u8 (0), .int .u8 (0)]⟩ := rfl
theorem eR : ti env 31 = M.pure ⟨Go.TypeDesc.struct #[⟨"Point", 28, 0, false, "", "", 0⟩, ⟨"Made", 3, 33, false, "", "", 40⟩, ⟨"Value", 2, 34, false, "", "", 48⟩, ⟨"Script", 29, 35, false, "", "", 56⟩, ⟨"Base", 4, 36, false, "", "", 80⟩, ⟨"Spent", 3, 37, false, "", "", 88⟩, ⟨"Spender", 25, 38, false, "", "", 96⟩], 70, 128, .agg [.int .u8 (0), .int .u8 (0), .int .u8 (0), .int .u8 (0), .int .u8 (0), .int .u8 (0), .int .u8 (0), .int .u8 (0), .int .u8 (0), .int .u8 (0), .int .u8 (0), .int .u8 (0), .int .u8 (0), .int .u8 (0), .int .u8 (0), .int .u8 (0), .int .u8 (0), .int .u8 (0), .int .u8 (0), .int .u8 (0), .int .u8 (0), .int .u8 (0), .int .u8 (0), .int .u8 (0), .int .u8 (0), .int .u8 (0), .int .u8 (0), .int .u8 (0), .int .u8 (0), .int .u8 (0), .int .u8 (0), .int .u8 (0), .int .u32 (0), .int .i64 (0), .int .i64 (0), .aL, .bool false, .int .i64 (0), .int .u8 (0), .int .u8 (0), .int .u8 (0), .int .u8 (0), .int .u8 (0), .int .u8 (0), .int .u8 (0), .int .u8 (0), .int .u8 (0), .int .u8 (0), .int .u8 (0), .int .u8 (0), .int .u8 (0), .int .u8 (0), .int .u8 (0), .int .u8 (0), .int .u8 (0), .int .u8 (0), .int .u8 (0), .int .u8 (0), .int .u8 (0), .int .u8 (0), .int .u8 (0), .int .u8 (0), .int .u8 (0), .int .u8 (0), .int .u8 (0), .int .u8 (0), .int .u8 (0), .int .u8 (0), .int .u8 (0), .int .u8 (0)]⟩ := rfl
theorem CY : ti env 32 = M.pure ⟨Go.TypeDesc.int (Go.IntKind.i64), 1, 8, .int .i64 (0)⟩ := rfl
theorem WD : ti env 36 = M.pure ⟨Go.TypeDesc.slice 41, 1, 24, .aL⟩ := rfl
theorem WC : ti env 40 = M.pure ⟨Go.TypeDesc.struct #[⟨"Script", 29, 0, false, "", "", 0⟩, ⟨"Balance", 2, 1, false, "", "", 24⟩], 2, 32, .agg [.aL, .int .i64 (0)]⟩ := rfl
theorem LN : ti env 41 = M.pure ⟨Go.TypeDesc.struct #[⟨"Script", 29, 0, false, "", "", 0⟩, ⟨"Balance", 2, 1, false, "", "", 24⟩], 2, 32, .agg [.aL, .int .i64 (0)]⟩ := rfl
theorem uF : ti env 43 = M.pure ⟨Go.TypeDesc.slice 31, 1, 24, .aL⟩ := rfl
theorem FB : ti env 44 = M.pure ⟨Go.TypeDesc.slice 48, 1, 24, .aL⟩ := rfl
theorem WB : ti env 45 = M.pure ⟨Go.TypeDesc.struct #[⟨"Height", 3, 0, false, "", "", 0⟩, ⟨"Block", 25, 1, false, "", "", 8⟩, ⟨"Made", 43, 33, false, "", "", 40⟩, ⟨"Spends", 44, 34, false, "", "", 64⟩, ⟨"Burnt", 2, 35, false, "", "", 88⟩, ⟨"Left", 2, 36, false, "", "", 96⟩], 37, 104, .agg [.int .i64 (0), .int .u8 (0), .int .u8 (0), .int .u8 (0), .int .u8 (0), .int .u8 (0), .int .u8 (0), .int .u8 (0), .int .u8 (0), .int .u8 (0), .int .u8 (0), .int .u8 (0), .int .u8 (0), .int .u8 (0), .int .u8 (0), .int .u8 (0), .int .u8 (0), .int .u8 (0), .int .u8 (0), .int .u8 (0), .int .u8 (0), .int .u8 (0), .int .u8 (0), .int .u8 (0), .int .u8 (0), .int .u8 (0), .int .u8 (0), .int .u8 (0), .int .u8 (0), .int .u8 (0), .int .u8 (0), .int .u8 (0), .int .u8 (0), .aL, .aL, .int .i64 (0), .int .i64 (0)]⟩ := rfl
theorem mA : ti env 46 = M.pure ⟨Go.TypeDesc.struct #[⟨"Height", 3, 0, false, "", "", 0⟩, ⟨"Block", 25, 1, false, "", "", 8⟩, ⟨"Made", 43, 33, false, "", "", 40⟩, ⟨"Spends", 44, 34, false, "", "", 64⟩, ⟨"Burnt", 2, 35, false, "", "", 88⟩, ⟨"Left", 2, 36, false, "", "", 96⟩], 37, 104, .agg [.int .i64 (0), .int .u8 (0), .int .u8 (0), .int .u8 (0), .int .u8 (0), .int .u8 (0), .int .u8 (0), .int .u8 (0), .int .u8 (0), .int .u8 (0), .int .u8 (0), .int .u8 (0), .int .u8 (0), .int .u8 (0), .int .u8 (0), .int .u8 (0), .int .u8 (0), .int .u8 (0), .int .u8 (0), .int .u8 (0), .int .u8 (0), .int .u8 (0), .int .u8 (0), .int .u8 (0), .int .u8 (0), .int .u8 (0), .int .u8 (0), .int .u8 (0), .int .u8 (0), .int .u8 (0), .int .u8 (0), .int .u8 (0), .int .u8 (0), .aL, .aL, .int .i64 (0), .int .i64 (0)]⟩ := rfl
theorem WA : ti env 47 = M.pure ⟨Go.TypeDesc.struct #[⟨"Point", 28, 0, false, "", "", 0⟩, ⟨"Spender", 25, 33, false, "", "", 36⟩], 65, 68, .agg [.int .u8 (0), .int .u8 (0), .int .u8 (0), .int .u8 (0), .int .u8 (0), .int .u8 (0), .int .u8 (0), .int .u8 (0), .int .u8 (0), .int .u8 (0), .int .u8 (0), .int .u8 (0), .int .u8 (0), .int .u8 (0), .int .u8 (0), .int .u8 (0), .int .u8 (0), .int .u8 (0), .int .u8 (0), .int .u8 (0), .int .u8 (0), .int .u8 (0), .int .u8 (0), .int .u8 (0), .int .u8 (0), .int .u8 (0), .int .u8 (0), .int .u8 (0), .int .u8 (0), .int .u8 (0), .int .u8 (0), .int .u8 (0), .int .u32 (0), .int .u8 (0), .int .u8 (0), .int .u8 (0), .int .u8 (0), .int .u8 (0), .int .u8 (0), .int .u8 (0), .int .u8 (0), .int .u8 (0), .int .u8 (0), .int .u8 (0), .int .u8 (0), .int .u8 (0), .int .u8 (0), .int .u8 (0), .int .u8 (0), .int .u8 (0), .int .u8 (0), .int .u8 (0), .int .u8 (0), .int .u8 (0), .int .u8 (0), .int .u8 (0), .int .u8 (0), .int .u8 (0), .int .u8 (0), .int .u8 (0), .int .u8 (0), .int .u8 (0), .int .u8 (0), .int .u8 (0), .int .u8 (0)]⟩ := rfl
theorem z6 : ti env 48 = M.pure ⟨Go.TypeDesc.struct #[⟨"Point", 28, 0, false, "", "", 0⟩, ⟨"Spender", 25, 33, false, "", "", 36⟩], 65, 68, .agg [.int .u8 (0), .int .u8 (0), .int .u8 (0), .int .u8 (0), .int .u8 (0), .int .u8 (0), .int .u8 (0), .int .u8 (0), .int .u8 (0), .int .u8 (0), .int .u8 (0), .int .u8 (0), .int .u8 (0), .int .u8 (0), .int .u8 (0), .int .u8 (0), .int .u8 (0), .int .u8 (0), .int .u8 (0), .int .u8 (0), .int .u8 (0), .int .u8 (0), .int .u8 (0), .int .u8 (0), .int .u8 (0), .int .u8 (0), .int .u8 (0), .int .u8 (0), .int .u8 (0), .int .u8 (0), .int .u8 (0), .int .u8 (0), .int .u32 (0), .int .u8 (0), .int .u8 (0), .int .u8 (0), .int .u8 (0), .int .u8 (0), .int .u8 (0), .int .u8 (0), .int .u8 (0), .int .u8 (0), .int .u8 (0), .int .u8 (0), .int .u8 (0), .int .u8 (0), .int .u8 (0), .int .u8 (0), .int .u8 (0), .int .u8 (0), .int .u8 (0), .int .u8 (0), .int .u8 (0), .int .u8 (0), .int .u8 (0), .int .u8 (0), .int .u8 (0), .int .u8 (0), .int .u8 (0), .int .u8 (0), .int .u8 (0), .int .u8 (0), .int .u8 (0), .int .u8 (0), .int .u8 (0)]⟩ := rfl
theorem sL : ti env 56 = M.pure ⟨Go.TypeDesc.pointer 100, 1, 8, .cY⟩ := rfl
theorem uE : ti env 57 = M.pure ⟨Go.TypeDesc.slice 61, 1, 24, .aL⟩ := rfl
theorem W9 : ti env 58 = M.pure ⟨Go.TypeDesc.struct #[⟨"x", 56, 0, false, "", "purser/store", 0⟩, ⟨"levels", 57, 1, false, "", "purser/store", 8⟩], 2, 32, .agg [.cY, .aL]⟩ := rfl
theorem RS : ti env 59 = M.pure ⟨Go.TypeDesc.struct #[⟨"x", 56, 0, false, "", "purser/store", 0⟩, ⟨"levels", 57, 1, false, "", "purser/store", 8⟩], 2, 32, .agg [.cY, .aL]⟩ := rfl
theorem W8 : ti env 60 = M.pure ⟨Go.TypeDesc.struct #[⟨"Height", 3, 0, false, "", "", 0⟩, ⟨"Block", 25, 1, false, "", "", 8⟩, ⟨"Coins", 3, 33, false, "", "", 40⟩, ⟨"Total", 2, 34, false, "", "", 48⟩, ⟨"Burnt", 2, 35, false, "", "", 56⟩, ⟨"Left", 2, 36, false, "", "", 64⟩], 37, 72, .agg [.int .i64 (0), .int .u8 (0), .int .u8 (0), .int .u8 (0), .int .u8 (0), .int .u8 (0), .int .u8 (0), .int .u8 (0), .int .u8 (0), .int .u8 (0), .int .u8 (0), .int .u8 (0), .int .u8 (0), .int .u8 (0), .int .u8 (0), .int .u8 (0), .int .u8 (0), .int .u8 (0), .int .u8 (0), .int .u8 (0), .int .u8 (0), .int .u8 (0), .int .u8 (0), .int .u8 (0), .int .u8 (0), .int .u8 (0), .int .u8 (0), .int .u8 (0), .int .u8 (0), .int .u8 (0), .int .u8 (0), .int .u8 (0), .int .u8 (0), .int .i64 (0), .int .i64 (0), .int .i64 (0), .int .i64 (0)]⟩ := rfl
theorem gV : ti env 61 = M.pure ⟨Go.TypeDesc.struct #[⟨"Height", 3, 0, false, "", "", 0⟩, ⟨"Block", 25, 1, false, "", "", 8⟩, ⟨"Coins", 3, 33, false, "", "", 40⟩, ⟨"Total", 2, 34, false, "", "", 48⟩, ⟨"Burnt", 2, 35, false, "", "", 56⟩, ⟨"Left", 2, 36, false, "", "", 64⟩], 37, 72, .agg [.int .i64 (0), .int .u8 (0), .int .u8 (0), .int .u8 (0), .int .u8 (0), .int .u8 (0), .int .u8 (0), .int .u8 (0), .int .u8 (0), .int .u8 (0), .int .u8 (0), .int .u8 (0), .int .u8 (0), .int .u8 (0), .int .u8 (0), .int .u8 (0), .int .u8 (0), .int .u8 (0), .int .u8 (0), .int .u8 (0), .int .u8 (0), .int .u8 (0), .int .u8 (0), .int .u8 (0), .int .u8 (0), .int .u8 (0), .int .u8 (0), .int .u8 (0), .int .u8 (0), .int .u8 (0), .int .u8 (0), .int .u8 (0), .int .u8 (0), .int .i64 (0), .int .i64 (0), .int .i64 (0), .int .i64 (0)]⟩ := rfl
theorem oQ : ti env 95 = M.pure ⟨Go.TypeDesc.slice 128, 1, 24, .aL⟩ := rfl
theorem J1 : ti env 96 = M.pure ⟨Go.TypeDesc.func #[128, 128] #[3] false, 1, 8, .cE⟩ := rfl
theorem W7 : ti env 97 = M.pure ⟨Go.TypeDesc.struct #[⟨"l", 95, 0, false, "", "purser/index", 0⟩, ⟨"order", 96, 1, false, "", "purser/index", 24⟩], 2, 32, .agg [.aL, .cE]⟩ := rfl
theorem W6 : ti env 98 = M.pure ⟨Go.TypeDesc.struct #[⟨"l", 95, 0, false, "", "purser/index", 0⟩, ⟨"order", 96, 1, false, "", "purser/index", 24⟩], 2, 32, .agg [.aL, .cE]⟩ := rfl
theorem W5 : ti env 99 = M.pure ⟨Go.TypeDesc.struct #[⟨"made", 4, 0, false, "", "purser/index", 0⟩, ⟨"points", 98, 1, false, "", "purser/index", 8⟩, ⟨"scripts", 98, 3, false, "", "purser/index", 40⟩], 5, 72, .agg [.bool false, .aL, .cE, .aL, .cE]⟩ := rfl
theorem HM : ti env 100 = M.pure ⟨Go.TypeDesc.struct #[⟨"made", 4, 0, false, "", "purser/index", 0⟩, ⟨"points", 98, 1, false, "", "purser/index", 8⟩, ⟨"scripts", 98, 3, false, "", "purser/index", 40⟩], 5, 72, .agg [.bool false, .aL, .cE, .aL, .cE]⟩ := rfl
theorem M7 : ti env 104 = M.pure ⟨Go.TypeDesc.struct #[⟨"Kind", 3, 0, false, "", "", 0⟩, ⟨"A", 46, 1, false, "", "", 8⟩, ⟨"Next", 4, 38, false, "", "", 112⟩, ⟨"N", 3, 39, false, "", "", 120⟩], 40, 128, .agg [.int .i64 (0), .int .i64 (0), .int .u8 (0), .int .u8 (0), .int .u8 (0), .int .u8 (0), .int .u8 (0), .int .u8 (0), .int .u8 (0), .int .u8 (0), .int .u8 (0), .int .u8 (0), .int .u8 (0), .int .u8 (0), .int .u8 (0), .int .u8 (0), .int .u8 (0), .int .u8 (0), .int .u8 (0), .int .u8 (0), .int .u8 (0), .int .u8 (0), .int .u8 (0), .int .u8 (0), .int .u8 (0), .int .u8 (0), .int .u8 (0), .int .u8 (0), .int .u8 (0), .int .u8 (0), .int .u8 (0), .int .u8 (0), .int .u8 (0), .int .u8 (0), .aL, .aL, .int .i64 (0), .int .i64 (0), .bool false, .int .i64 (0)]⟩ := rfl
theorem M4 : ti env 115 = M.pure ⟨Go.TypeDesc.map 9 2, 1, 8, .kX⟩ := rfl
theorem iO : ti env 128 = M.pure ⟨Go.TypeDesc.pointer 31, 1, 8, .cY⟩ := rfl
theorem LZ : ti env 147 = M.pure ⟨Go.TypeDesc.slice 3, 1, 24, .aL⟩ := rfl
theorem LX : ti env 161 = M.pure ⟨Go.TypeDesc.map 28 3, 1, 8, .kX⟩ := rfl
theorem LW : ti env 176 = M.pure ⟨Go.TypeDesc.int (Go.IntKind.u8), 1, 1, .int .u8 (0)⟩ := rfl
theorem LV : ti env 177 = M.pure ⟨Go.TypeDesc.int (Go.IntKind.u8), 1, 1, .int .u8 (0)⟩ := rfl
theorem LU : ti env 178 = M.pure ⟨Go.TypeDesc.func #[185, 185] #[4] false, 1, 8, .cE⟩ := rfl
theorem LS : ti env 179 = M.pure ⟨Go.TypeDesc.pointer 5, 1, 8, .cY⟩ := rfl
theorem LR : ti env 180 = M.pure ⟨Go.TypeDesc.int (Go.IntKind.i32), 1, 4, .int .i32 (0)⟩ := rfl
theorem LQ : ti env 181 = M.pure ⟨Go.TypeDesc.int (Go.IntKind.i32), 1, 4, .int .i32 (0)⟩ := rfl
theorem LP : ti env 182 = M.pure ⟨Go.TypeDesc.struct #[⟨"Size_", 12, 0, false, "", "", 0⟩, ⟨"PtrBytes", 12, 1, false, "", "", 8⟩, ⟨"Hash", 26, 2, false, "", "", 16⟩, ⟨"TFlag", 176, 3, false, "", "", 20⟩, ⟨"Align_", 5, 4, false, "", "", 21⟩, ⟨"FieldAlign_", 5, 5, false, "", "", 22⟩, ⟨"Kind_", 177, 6, false, "", "", 23⟩, ⟨"Equal", 178, 7, false, "", "", 24⟩, ⟨"GCData", 179, 8, false, "", "", 32⟩, ⟨"Str", 180, 9, false, "", "", 40⟩, ⟨"PtrToThis", 181, 10, false, "", "", 44⟩], 11, 48, .agg [.int .u64 (0), .int .u64 (0), .int .u32 (0), .int .u8 (0), .int .u8 (0), .int .u8 (0), .int .u8 (0), .cE, .cY, .int .i32 (0), .int .i32 (0)]⟩ := rfl
theorem LO : ti env 183 = M.pure ⟨Go.TypeDesc.struct #[⟨"Size_", 12, 0, false, "", "", 0⟩, ⟨"PtrBytes", 12, 1, false, "", "", 8⟩, ⟨"Hash", 26, 2, false, "", "", 16⟩, ⟨"TFlag", 176, 3, false, "", "", 20⟩, ⟨"Align_", 5, 4, false, "", "", 21⟩, ⟨"FieldAlign_", 5, 5, false, "", "", 22⟩, ⟨"Kind_", 177, 6, false, "", "", 23⟩, ⟨"Equal", 178, 7, false, "", "", 24⟩, ⟨"GCData", 179, 8, false, "", "", 32⟩, ⟨"Str", 180, 9, false, "", "", 40⟩, ⟨"PtrToThis", 181, 10, false, "", "", 44⟩], 11, 48, .agg [.int .u64 (0), .int .u64 (0), .int .u32 (0), .int .u8 (0), .int .u8 (0), .int .u8 (0), .int .u8 (0), .cE, .cY, .int .i32 (0), .int .i32 (0)]⟩ := rfl
theorem ap9 : (env.funcs.find 17).i = K8.i := rfl
theorem au8 : (env.funcs.find 17).f.beq 17 = true := rfl
theorem ZD : ∀ args : List a9, bM env (aE env) 17 args = aQ env (aE env) 17 args := fun _ => rfl
theorem TK : ∀ tm : List a9, bG env 17 tm = aJ [T, T, T, F, F, F, T, T, F, T, T, F, T, T, T, T, T, T, F, F, F, F, F, F, F, T, F, F, F, F, F, F, F, T, T, T, T, F, F, F, F, F, F, F, F, F, F, F, F, F, F, F, F, F, F, F, T, F, T, F, T, F, F, F, F, F, F, F, F, F, F, F, T, F, F, F, F, F, F, F, F, F, F, F, F] tm := fun _ => rfl
theorem aL3 : (env.funcs.find 20).i = ac4.i := rfl
theorem aV1 : (env.funcs.find 20).f.beq 20 = true := rfl
theorem ZC : ∀ args : List a9, bM env (aE env) 20 args = aQ env (aE env) 20 args := fun _ => rfl
theorem aQ2 : ∀ tm : List a9, bG env 20 tm = aJ [T, F, T, F, T, F, F, F, F, F, F] tm := fun _ => rfl
theorem ad1 : (env.funcs.find 63).i = xZ.i := rfl
theorem ad9 : (env.funcs.find 63).f.beq 63 = true := rfl
theorem ZB : ∀ args : List a9, bM env (aE env) 63 args = aQ env (aE env) 63 args := fun _ => rfl
theorem ad7 : ∀ tm : List a9, bG env 63 tm = aJ [T, F, T, T, F, T, T, T, T, T, F, F, F, F, T, F, F, F] tm := fun _ => rfl
theorem ap8 : (env.funcs.find 64).i = E2.i := rfl
theorem au7 : (env.funcs.find 64).f.beq 64 = true := rfl
theorem ZA : ∀ args : List a9, bM env (aE env) 64 args = aQ env (aE env) 64 args := fun _ => rfl
theorem ad6 : ∀ tm : List a9, bG env 64 tm = aJ [T, T, F, F, T, T, T, F, F, F, F, T, T, T, F, F, T, F, F, T] tm := fun _ => rfl
theorem ap7 : (env.funcs.find 65).i = K7.i := rfl
theorem au6 : (env.funcs.find 65).f.beq 65 = true := rfl
theorem Z9 : ∀ args : List a9, bM env (aE env) 65 args = aQ env (aE env) 65 args := fun _ => rfl
theorem ad5 : ∀ tm : List a9, bG env 65 tm = aJ [T, T, F, F, T, F, F, F] tm := fun _ => rfl
theorem ad0 : (env.funcs.find 66).i = GB.i := rfl
theorem ad8 : (env.funcs.find 66).f.beq 66 = true := rfl
theorem Z8 : ∀ args : List a9, bM env (aE env) 66 args = aQ env (aE env) 66 args := fun _ => rfl
theorem ad4 : ∀ tm : List a9, bG env 66 tm = aJ [T, F, T, F, F, F, F, F, F, F, F, F] tm := fun _ => rfl
theorem ap6 : (env.funcs.find 97).i = K6.i := rfl
theorem au5 : (env.funcs.find 97).f.beq 97 = true := rfl
theorem Z7 : ∀ args : List a9, bM env (aE env) 97 args = aQ env (aE env) 97 args := fun _ => rfl
theorem ad3 : ∀ tm : List a9, bG env 97 tm = aJ [T, F, T, F, F, F] tm := fun _ => rfl
theorem ap5 : (env.funcs.find 98).i = K4.i := rfl
theorem au4 : (env.funcs.find 98).f.beq 98 = true := rfl
theorem Z6 : ∀ args : List a9, bM env (aE env) 98 args = aQ env (aE env) 98 args := fun _ => rfl
theorem ad2 : ∀ tm : List a9, bG env 98 tm = aJ [T, T, F, F, T, F, F, F] tm := fun _ => rfl
theorem UZ : (env.funcs.find 104).i = AJ.i := rfl
theorem V0 : (env.funcs.find 104).f.beq 104 = true := rfl
theorem OP : ∀ args : List a9, bM env (aE env) 104 args = aQ env (aE env) 104 args := fun _ => rfl
theorem at9 : ∀ tm : List a9, bG env 104 tm = aJ [T, T, T, F, F, F, T, T, T, T, F, F, F, F, F, F, T, F, F, F, F, F, T, F, F, F, F, F, F, F, F, T, F, F, F, F, F, F, F, F, F, F, F, F, F, F, F, F, F, F, F, F, F, F, F, F, F, F, F, F, F, F, F, F, F, F, F, F, T, F, F, F, F, F, F, F, F, F, F, F, F, F, F, F, F, F, F, F, F, F, F, F, F, F, F] tm := fun _ => rfl
theorem aq9 : (env.funcs.find 108).i = OY.i := rfl
theorem av8 : (env.funcs.find 108).f.beq 108 = true := rfl
theorem OO : ∀ args : List a9, bM env (aE env) 108 args = aQ env (aE env) 108 args := fun _ => rfl
theorem as9 : ∀ tm : List a9, bG env 108 tm = aJ [T, T, F, F, T, F, F, F] tm := fun _ => rfl
theorem OM : ∀ args : List a9, bM env (aE env) 112 args = cK args := fun _ => rfl
theorem OL : ∀ args : List a9, bM env (aE env) 115 args = (gG 128) args := fun _ => rfl
theorem OK : ∀ args : List a9, bM env (aE env) 119 args = cK args := fun _ => rfl
theorem af9 : ∀ ts l, cA env (9 :: ts) (.str l) = M.pure (.int .i64 (l.length : Nat)) := fun _ _ => rfl
theorem R2 : ∀ ts v, cA env (24 :: ts) v = M.pure (.int .i64 32) := fun _ _ => rfl
theorem R1 : ∀ ts v, cA env (25 :: ts) v = M.pure (.int .i64 32) := fun _ _ => rfl
theorem R0 : ∀ ts id off len cap sz, cA env (29 :: ts) (.sl id off len cap sz) = M.pure (.int .i64 (len : Nat)) := fun _ _ _ _ _ _ => rfl
theorem QZ : ∀ ts g sz off len, cA env (29 :: ts) (.isl g sz off len) = M.pure (.int .i64 (len : Nat)) := fun _ _ _ _ _ => rfl
theorem QY : ∀ ts, cA env (29 :: ts) .aL = M.pure (.int .i64 0) := fun _ => rfl
theorem QX : ∀ ts, cA env (29 :: ts) .emp = M.pure (.int .i64 0) := fun _ => rfl
theorem QW : ∀ ts id off len cap sz, cA env (36 :: ts) (.sl id off len cap sz) = M.pure (.int .i64 (len : Nat)) := fun _ _ _ _ _ _ => rfl
theorem QV : ∀ ts g sz off len, cA env (36 :: ts) (.isl g sz off len) = M.pure (.int .i64 (len : Nat)) := fun _ _ _ _ _ => rfl
theorem QU : ∀ ts, cA env (36 :: ts) .aL = M.pure (.int .i64 0) := fun _ => rfl
theorem QT : ∀ ts, cA env (36 :: ts) .emp = M.pure (.int .i64 0) := fun _ => rfl
theorem QS : ∀ ts id off len cap sz, cA env (43 :: ts) (.sl id off len cap sz) = M.pure (.int .i64 (len : Nat)) := fun _ _ _ _ _ _ => rfl
theorem QR : ∀ ts g sz off len, cA env (43 :: ts) (.isl g sz off len) = M.pure (.int .i64 (len : Nat)) := fun _ _ _ _ _ => rfl
theorem QQ : ∀ ts, cA env (43 :: ts) .aL = M.pure (.int .i64 0) := fun _ => rfl
theorem QP : ∀ ts, cA env (43 :: ts) .emp = M.pure (.int .i64 0) := fun _ => rfl
theorem QO : ∀ ts id off len cap sz, cA env (44 :: ts) (.sl id off len cap sz) = M.pure (.int .i64 (len : Nat)) := fun _ _ _ _ _ _ => rfl
theorem QN : ∀ ts g sz off len, cA env (44 :: ts) (.isl g sz off len) = M.pure (.int .i64 (len : Nat)) := fun _ _ _ _ _ => rfl
theorem QM : ∀ ts, cA env (44 :: ts) .aL = M.pure (.int .i64 0) := fun _ => rfl
theorem QL : ∀ ts, cA env (44 :: ts) .emp = M.pure (.int .i64 0) := fun _ => rfl
theorem QK : ∀ ts id off len cap sz, cA env (57 :: ts) (.sl id off len cap sz) = M.pure (.int .i64 (len : Nat)) := fun _ _ _ _ _ _ => rfl
theorem QJ : ∀ ts g sz off len, cA env (57 :: ts) (.isl g sz off len) = M.pure (.int .i64 (len : Nat)) := fun _ _ _ _ _ => rfl
theorem QI : ∀ ts, cA env (57 :: ts) .aL = M.pure (.int .i64 0) := fun _ => rfl
theorem QH : ∀ ts, cA env (57 :: ts) .emp = M.pure (.int .i64 0) := fun _ => rfl
theorem QG : ∀ ts id off len cap sz, cA env (95 :: ts) (.sl id off len cap sz) = M.pure (.int .i64 (len : Nat)) := fun _ _ _ _ _ _ => rfl
theorem QF : ∀ ts g sz off len, cA env (95 :: ts) (.isl g sz off len) = M.pure (.int .i64 (len : Nat)) := fun _ _ _ _ _ => rfl
theorem QD : ∀ ts, cA env (95 :: ts) .aL = M.pure (.int .i64 0) := fun _ => rfl
theorem QC : ∀ ts, cA env (95 :: ts) .emp = M.pure (.int .i64 0) := fun _ => rfl
theorem GY : ∀ ts id off len cap sz, cA env (147 :: ts) (.sl id off len cap sz) = M.pure (.int .i64 (len : Nat)) := fun _ _ _ _ _ _ => rfl
theorem GX : ∀ ts g sz off len, cA env (147 :: ts) (.isl g sz off len) = M.pure (.int .i64 (len : Nat)) := fun _ _ _ _ _ => rfl
theorem GW : ∀ ts, cA env (147 :: ts) .aL = M.pure (.int .i64 0) := fun _ => rfl
theorem GV : ∀ ts, cA env (147 :: ts) .emp = M.pure (.int .i64 0) := fun _ => rfl
noncomputable def BW : Code := (bD (Try.f17.body.getD .skip)).getD 0 .skip
noncomputable def BV : Code := (bD (Try.f17.body.getD .skip)).getD 1 .skip
noncomputable def rU : Code := (bD (Try.f17.body.getD .skip)).getD 2 .skip
noncomputable def YN : Code := (bD (Try.f63.body.getD .skip)).getD 0 .skip
def tyr := (And.intro ti2 (And.intro ti3 (And.intro ti4 (And.intro ti5 (And.intro ti9 (And.intro WK (And.intro WJ (And.intro WI (And.intro J2 (And.intro WH (And.intro nK (And.intro uG (And.intro WG (And.intro jJ (And.intro vP (And.intro WE (And.intro eR (And.intro CY (And.intro WD (And.intro WC (And.intro LN (And.intro uF (And.intro FB (And.intro WB (And.intro mA (And.intro WA (And.intro z6 (And.intro sL (And.intro uE (And.intro W9 (And.intro RS (And.intro W8 (And.intro gV (And.intro oQ (And.intro J1 (And.intro W7 (And.intro W6 (And.intro W5 (And.intro HM (And.intro M7 (And.intro M4 (And.intro iO (And.intro LZ (And.intro LX (And.intro LW (And.intro LV (And.intro LU (And.intro LS (And.intro LR (And.intro LQ (And.intro LP LO)))))))))))))))))))))))))))))))))))))))))))))))))))
def blr := (And.intro af9 (And.intro R2 (And.intro R1 (And.intro R0 (And.intro QZ (And.intro QY (And.intro QX (And.intro QW (And.intro QV (And.intro QU (And.intro QT (And.intro QS (And.intro QR (And.intro QQ (And.intro QP (And.intro QO (And.intro QN (And.intro QM (And.intro QL (And.intro QK (And.intro QJ (And.intro QI (And.intro QH (And.intro QG (And.intro QF (And.intro QD (And.intro QC (And.intro GY (And.intro GX (And.intro GW GV))))))))))))))))))))))))))))))
def fgr := (And.intro TK (And.intro aQ2 (And.intro ad7 (And.intro ad6 (And.intro ad5 (And.intro ad4 (And.intro ad3 (And.intro ad2 (And.intro at9 (And.intro as9 (And.intro YF (And.intro YC (And.intro FP (And.intro FO (And.intro FN (And.intro FM (And.intro FL (And.intro FK (And.intro SS SO)))))))))))))))))))
def hkr := (And.intro ZD (And.intro ZC (And.intro ZB (And.intro ZA (And.intro Z9 (And.intro Z8 (And.intro Z7 (And.intro Z6 (And.intro OP (And.intro OO (And.intro OM (And.intro OL OK))))))))))))
end Go.Am.Ytlgebaofkolkoaa.Ins
set_option linter.unusedSimpArgs false
set_option linter.unusedVariables false
set_option linter.defProp false
set_option maxRecDepth 10000
namespace Go.Am.Ytlgebaofkolkoaa.Ins
open Go Go.Am Go.Proofs
def aV (aP : List UInt8) (pn : Int) : List a9 := aP.map u8 ++ [.int .u32 pn]
theorem bW {aP : List UInt8} {pn : Int} (h : aP.length = 32) : (aV aP pn).length = 33 := by simp [aV, h]
theorem kG {aP : List UInt8} {pn : Int} (h : aP.length = 32) : (aV aP pn)[32]? = some (.int .u32 pn) := by
 unfold aV
 rw [List.getElem?_append_right (by rw [List.length_map]; omega), List.length_map, h]; rfl
theorem nG {α : Type} {f : α → M Bool} {g : α → Bool} : ∀ (l : List α), (∀ x ∈ l, f x = M.pure (g x)) → vY f l = M.pure (l.all g)
 | [], _ => rfl
 | x :: l, h => by
  simp only [vY, h x (List.mem_cons_self), aD, nG l fun y hy => h y (List.mem_cons_of_mem _ hy), List.all_cons]
theorem xJ {a : List UInt8} {i : Nat} (hi : i < a.length) : part env 5 (a.map u8) i = M.pure (u8 a[i]) := by
 simp only [part, ti5, aD, kS, List.getElem?_map, List.getElem?_eq_getElem hi, Option.map_some, fS]
theorem eq5 (d : Nat) (x y : UInt8) : equal env (d + 1) 5 (u8 x) (u8 y) = M.pure (x == y) := by
 have : ((x.toNat : Int) == (y.toNat : Int)) = (x == y) := by
  by_cases e : x = y
  ·subst e; simp
  ·have h2 : ¬ ((x.toNat : Int) = (y.toNat : Int)) := fun q => e (UInt8.toNat_inj.1 (by omega))
   rw [beq_eq_false_iff_ne.2 h2, beq_eq_false_iff_ne.2 e]
 simp only [equal, u8, und, ti5, aD, decide_true]
 rw [this]
theorem PD (d : Nat) (a b : List UInt8) (ha : a.length = 32) (hb : b.length = 32) : equal env (d + 1 + 1) 25 (.agg (a.map u8)) (.agg (b.map u8)) = M.pure (decide (a = b)) := by
 have hq : zL env env.eqs 25 = true := rfl
 have h1 : equal env (d + 1 + 1) 25 (.agg (a.map u8)) (.agg (b.map u8)) = vY (fun i => (part env 5 (a.map u8) (i * 1)).bind fun x => (part env 5 (b.map u8) (i * 1)).bind fun y => equal env (d + 1) 5 x y) (List.range 32) := by
  rw [equal]
  ·simp only [und, nK, aD, hq, gR, sizeOf, ti5]
  all_goals (intro k n h; cases h)
 rw [h1, nG (g := fun i => (a.getD i 0 == b.getD i 0)) _ fun i hi => ?_]
 ·congr 1
  rw [Bool.eq_iff_iff, List.all_eq_true, decide_eq_true_iff]
  constructor
  ·intro h
   apply List.ext_getElem (by omega)
   intro i h1 h2
   have := h i (List.mem_range.2 (by omega))
   rw [List.getD_eq_getElem?_getD, List.getD_eq_getElem?_getD, List.getElem?_eq_getElem h1, List.getElem?_eq_getElem h2] at this
   simpa using this
  ·rintro rfl i _
   simp
 ·have hi := List.mem_range.1 hi
  rw [Nat.mul_one, xJ (by omega), aD, xJ (by omega), aD, eq5]
  rw [List.getD_eq_getElem?_getD, List.getD_eq_getElem?_getD, List.getElem?_eq_getElem (by omega), List.getElem?_eq_getElem (by omega)]
  rfl
theorem TR (d : Nat) (h1 h2 : List UInt8) (n1 n2 : Int) (l1 : h1.length = 32) (l2 : h2.length = 32) : equal env (d + 1 + 1 + 1) 28 (.agg (aV h1 n1)) (.agg (aV h2 n2)) = M.pure (decide (h1 = h2) && (n1 == n2)) := by
 have hq : zL env env.eqs 28 = true := rfl
 have p0 : ∀ (hh : List UInt8) (nn : Int), hh.length = 32 → part env 25 (aV hh nn) 0 = M.pure (.agg (hh.map u8)) := fun hh nn hl => by
  simp only [part, nK, aD, kS, List.drop_zero]
  rw [show (aV hh nn).take 32 = hh.map u8 by unfold aV; rw [List.take_append_of_le_length (by simp [hl]), List.take_of_length_le (by simp [hl])]]
 have p1 : ∀ (hh : List UInt8) (nn : Int), hh.length = 32 → part env 26 (aV hh nn) 32 = M.pure (.int .u32 nn) := fun hh nn hl => by
  simp only [part, uG, aD, kS, kG hl, fS]
 have p2 : equal env (d + 1 + 1) 26 (.int .u32 n1) (.int .u32 n2) = M.pure (n1 == n2) := by
  simp only [equal, und, uG, aD, decide_true]
 rw [equal]
 ·simp only [und, jJ, aD, hq, gR]
  simp only [vY, show decide ("Tx" = "_") = false from rfl, show decide ("N" = "_") = false from rfl, p0 h1 n1 l1, p0 h2 n2 l2, p1 h1 n1 l1, p1 h2 n2 l2, aD, PD d h1 h2 l1 l2, p2, Bool.and_true]
 all_goals (intro k n h; cases h)
abbrev Pt := List UInt8 × Int
def ptA (p : Pt) : a9 := .agg (aV p.1 p.2)
theorem F9 {a b : UInt8} (h : u8 a = u8 b) : a = b := by
 unfold u8 at h
 injection h with h1 h2
 exact UInt8.toNat_inj.1 (by omega)
theorem lS : ∀ {a b : List UInt8}, a.map u8 = b.map u8 → a = b
 | [], [], _ => rfl
 | [], _ :: _, h => by cases h
 | _ :: _, [], h => by cases h
 | x :: a, y :: b, h => by
  simp only [List.map_cons, List.cons.injEq] at h
  rw [F9 h.1, lS h.2]
theorem sU {p q : Pt} (h : ptA p = ptA q) : p = q := by
 unfold ptA aV at h
 injection h with h
 obtain ⟨h1, h2⟩ := List.append_inj' h rfl
 injection h2 with h2
 injection h2 with _ h2
 exact Prod.ext (lS h1) h2
noncomputable def isK (k a : a9) : Bool := @decide (a = k) (Classical.propDecidable _)
theorem mF {k a : a9} : isK k a = true ↔ a = k := by unfold isK; exact @decide_eq_true_iff _ (Classical.propDecidable _)
theorem xU {k a : a9} (h : a ≠ k) : isK k a = false := by
 cases e : isK k a with
 | false => rfl
 | true => exact absurd (mF.1 e) h
theorem wL (p q : Pt) (l1 : p.1.length = 32) (l2 : q.1.length = 32) : bU env 28 (ptA p) (ptA q) = M.pure (isK (ptA p) (ptA q)) := by
 have e : bU env 28 (ptA p) (ptA q) = M.pure (decide (p.1 = q.1) && (p.2 == q.2)) := TR 97 p.1 q.1 p.2 q.2 l1 l2
 rw [e]
 congr 1
 by_cases c : p = q
 ·subst c
  rw [mF.2 rfl]; simp
 ·rw [xU fun w => c (sU w).symm]
  by_cases d : p.1 = q.1
  ·rw [decide_eq_true d, Bool.true_and, beq_eq_false_iff_ne]
   exact fun w => c (Prod.ext d w)
  ·rw [decide_eq_false d]; rfl
theorem DD : ∀ l : List a9, (∀ a ∈ l, oV a a = true) → vZ l l = true
 | [], _ => rfl
 | a :: l, h => by
  simp only [vZ, h a (List.mem_cons_self ..), DD l fun x hx => h x (List.mem_cons_of_mem _ hx), Bool.and_self]
theorem HR (p : Pt) : jC (ptA p) (ptA p) = true := by
 refine DD _ fun a ha => ?_
 unfold aV at ha
 rcases List.mem_append.1 ha with h | h
 ·obtain ⟨b, _, rfl⟩ := List.mem_map.1 h
  simp [u8, oV]
 ·rw [List.mem_singleton] at h
  subst h
  simp [oV]
theorem OE (d : Nat) (x : UInt8) : iT env (d + 1) 5 (u8 x) = M.pure () := by
 simp only [iT, und, ti5, aD]
theorem nF {α : Type} {f : α → M Unit} : ∀ (l : List α), (∀ x ∈ l, f x = M.pure ()) → CQ f l = M.pure ()
 | [], _ => rfl
 | x :: l, h => by simp only [CQ, h x (List.mem_cons_self ..), aD, nF l fun y hy => h y (List.mem_cons_of_mem _ hy)]
theorem G9 (d : Nat) (a : List UInt8) (ha : a.length = 32) : iT env (d + 1 + 1) 25 (.agg (a.map u8)) = M.pure () := by
 rw [iT]
 simp only [und, nK, aD, gR, sizeOf, ti5]
 refine nF _ fun i hi => ?_
 have hi := List.mem_range.1 hi
 rw [Nat.mul_one, xJ (by omega), aD, OE]
theorem uK (p : Pt) (l1 : p.1.length = 32) : iT env 100 28 (ptA p) = M.pure () := by
 have p0 : part env 25 (aV p.1 p.2) 0 = M.pure (.agg (p.1.map u8)) := by
  simp only [part, nK, aD, kS, List.drop_zero]
  rw [show (aV p.1 p.2).take 32 = p.1.map u8 by unfold aV; rw [List.take_append_of_le_length (by simp [l1]), List.take_of_length_le (by simp [l1])]]
 have p1 : part env 26 (aV p.1 p.2) 32 = M.pure (.int .u32 p.2) := by
  simp only [part, uG, aD, kS, kG l1, fS]
 have p2 : iT env (97 + 1 + 1) 26 (.int .u32 p.2) = M.pure () := by
  rw [iT]; simp only [und, uG, aD]
 unfold ptA
 show iT env (97 + 1 + 1 + 1) 28 (.agg (aV p.1 p.2)) = M.pure ()
 rw [iT]
 simp only [und, jJ, aD, gR]
 simp only [CQ, show decide ("Tx" = "_") = false from rfl, show decide ("N" = "_") = false from rfl, p0, p1, aD, G9 97 p.1 l1, p2]
theorem FA : und env 161 = M.pure (.map 28 3) := rfl
theorem z3o : j3 env 3 = M.pure (.int .i64 0) := rfl
end Go.Am.Ytlgebaofkolkoaa.Ins
set_option linter.unusedSimpArgs false
set_option linter.unusedVariables false
set_option linter.defProp false
set_option maxRecDepth 10000
namespace Go.Am.Ytlgebaofkolkoaa.Ins
open Go Go.Am Go.Proofs
theorem MG {a b : a9} (h : oV a b = true) : a = b := by
 unfold oV at h
 split at h
 ·simp only [Bool.and_eq_true, decide_eq_true_eq, beq_iff_eq] at h
  rw [h.1, h.2]
 ·rw [beq_iff_eq] at h
  rw [h]
 ·cases h
theorem IU : ∀ {a b : List a9}, vZ a b = true → a = b
 | [], [], _ => rfl
 | [], _ :: _, h => by simp [vZ] at h
 | _ :: _, [], h => by simp [vZ] at h
 | x :: a, y :: b, h => by
  simp only [vZ, Bool.and_eq_true] at h
  rw [MG h.1, IU h.2]
def FJ (l : List a9) : Option Pt := match l[32]? with
 | some v => match v with
  | .int .u32 z => match vZ (aV ((l.take 32).map iR) z) l && (((l.take 32).map iR).length).beq 32 with
   | true => some ((l.take 32).map iR, z)
   | false => none
  | _ => none
 | none => none
theorem A3 {l : List a9} {p : Pt} (h : FJ l = some p) : l = aV p.1 p.2 ∧ p.1.length = 32 := by
 unfold FJ at h
 split at h
 ·split at h
  ·split at h
   ·rename_i e
    rw [Bool.and_eq_true] at e
    injection h with h
    subst h
    exact ⟨(IU e.1).symm, Nat.eq_of_beq_eq_true e.2⟩
   ·cases h
  ·cases h
 ·cases h
theorem HV {p : Pt} (h : p.1.length = 32) : FJ (aV p.1 p.2) = some p := by
 have e1 : (aV p.1 p.2).take 32 = p.1.map u8 := by unfold aV; rw [List.take_append_of_le_length (by simp [h]), List.take_of_length_le (by simp [h])]
 unfold FJ
 rw [kG h, e1]
 have e2 : (p.1.map u8).map iR = p.1 := mQ p.1
 rw [e2]
 have e3 : vZ (aV p.1 p.2) (aV p.1 p.2) = true := HR p
 simp only [e3, h, Bool.true_and]
def EE (e : Ent) : Option (Pt × Int) := match e.1 with
 | .agg l => match FJ l with
  | some p => match e.2.1 with
   | .int .i64 z => some (p, z)
   | _ => none
  | none => none
 | _ => none
def cv (x : Pt × Int) : a9 × a9 := (ptA x.1, .int .i64 x.2)
theorem GM {e : Ent} {x : Pt × Int} (h : EE e = some x) : e.1 = ptA x.1 ∧ e.2.1 = .int .i64 x.2 ∧ x.1.1.length = 32 := by
 unfold EE at h
 split at h
 ·rename_i l e1
  split at h
  ·rename_i p hp
   split at h
   ·rename_i z e2
    injection h with h
    subst h
    obtain ⟨q1, q2⟩ := A3 hp
    exact ⟨by rw [e1, q1]; rfl, e2, q2⟩
   ·cases h
  ·cases h
 ·cases h
def oF (b : Nat) : List Ent → Option (List (Pt × Int))
 | [] => some []
 | e :: es => match EE e with
  | some x => match e.2.2.beq b with
   | true => match oF (b + 1) es with
    | some l => some (x :: l)
    | none => none
   | false => none
  | none => none
theorem tM : ∀ {es : List Ent} {b : Nat} {l : List (Pt × Int)}, oF b es = some l → es = eW b (l.map cv) ∧ ∀ x ∈ l, x.1.1.length = 32
 | [], b, l, h => by injection h with h; subst h; exact ⟨rfl, fun x hx => by cases hx⟩
 | e :: es, b, l, h => by
  unfold oF at h
  split at h
  ·rename_i x hx
   split at h
   ·rename_i hb
    split at h
    ·rename_i l2 hl
     injection h with h
     subst h
     obtain ⟨q1, q2⟩ := tM hl
     obtain ⟨a1, a2, a3⟩ := GM hx
     refine ⟨?_, fun y hy => ?_⟩
     ·simp only [List.map_cons, eW, ← q1]
      congr 1
      exact Prod.ext a1 (Prod.ext a2 (Nat.eq_of_beq_eq_true hb))
     ·rcases List.mem_cons.1 hy with rfl | hy
      ·exact a3
      ·exact q2 y hy
    ·cases h
   ·cases h
  ·cases h
theorem tO : ∀ (l : List (Pt × Int)) (b : Nat), (∀ x ∈ l, x.1.1.length = 32) → oF b (eW b (l.map cv)) = some l
 | [], b, _ => rfl
 | x :: l, b, h => by
  have e : EE (ptA x.1, a9.int .i64 x.2, b) = some x := by
   unfold EE ptA
   simp only [HV (h x (List.mem_cons_self ..))]
  simp only [List.map_cons, eW, oF, cv, e, Nat.beq_refl, tO l (b + 1) fun y hy => h y (List.mem_cons_of_mem _ hy)]
def mG (p : Pt) : List (Pt × Int) → Nat → Option (Nat × Int)
 | [], _ => none
 | x :: l, i => if x.1 = p then some (i, x.2) else mG p l (i + 1)
theorem AE {p : Pt} : ∀ (l : List (Pt × Int)) (i : Nat), dB (isK (ptA p)) (l.map cv) i = (mG p l i).map fun x => (x.1, a9.int .i64 x.2)
 | [], _ => rfl
 | x :: l, i => by
  by_cases c : x.1 = p
  ·simp only [List.map_cons, cv, dB, c, mF.2 rfl, if_pos, mG, Option.map_some]
  ·simp only [List.map_cons, cv, dB, xU fun w => c (sU w), mG, if_neg c, Bool.false_eq_true]
   exact AE l (i + 1)
theorem DV {p : Pt} : ∀ {l : List (Pt × Int)} {i j : Nat} {z : Int}, mG p l i = some (j, z) → i ≤ j ∧ j - i < l.length ∧ l[j - i]? = some (p, z)
 | [], _, _, _, h => by cases h
 | x :: l, i, j, z, h => by
  unfold mG at h
  split at h
  ·rename_i c
   injection h with h
   injection h with h1 h2
   subst h1; subst h2
   refine ⟨Nat.le_refl _, by simp, ?_⟩
   rw [Nat.sub_self, ← c]; rfl
  ·obtain ⟨h1, h2, h3⟩ := DV h
   refine ⟨by omega, by simp only [List.length_cons]; omega, ?_⟩
   rw [show j - i = (j - (i + 1)) + 1 by omega, List.getElem?_cons_succ]
   exact h3
def bump (p : Pt) (l : List (Pt × Int)) : List (Pt × Int) := match mG p l 0 with
 | some x => l.modify x.1 fun y => (y.1, IntKind.i64.wrap (x.2 + 1))
 | none => l ++ [(p, 1)]
def EP (bx bm : Blk) : Option (Pt × Nat × List (Pt × Int)) := match bx with
 | .row c _ => match c with
  | .l cells => match FJ (cells.take 33) with
   | some p => match bm with
    | .map es ck => match oF (ck - es.length) es with
     | some l => match es.length.ble ck with
      | true => some (p, ck - es.length, l)
      | false => none
     | none => none
    | _ => none
   | none => none
  | _ => none
 | _ => none
def vJ (tm : List a9) : List Nat → List a9
 | [] => tm
 | t :: l => vJ (put tm t .aA) l
def qO (m c : Nat) (ts : List Nat) (tm : List a9) : M (eJ × List a9) :=
 match nth tm m undef with
 | .map id => match nth tm c undef with
  | .ptr x off => match off.beq 0 && ts.all (fun t => t.blt tm.length) with
   | true => (eI x).bind fun bx => (eI id).bind fun bm => match EP bx bm with
     | some r => (jP id (.map (eW r.2.1 ((bump r.1 r.2.2).map cv)) (r.2.1 + (bump r.1 r.2.2).length))).bind fun _ => M.pure (.normal, vJ tm ts)
     | none => aY "bump"
   | false => aY "bump"
  | _ => aY "bump"
 | _ => aY "bump"
theorem GS {bx bm : Blk} {r : Pt × Nat × List (Pt × Int)} (h : EP bx bm = some r) : ∃ cells t, bx = .row (.l cells) t ∧ cells.take 33 = aV r.1.1 r.1.2 ∧ r.1.1.length = 32 ∧ bm = .map (eW r.2.1 (r.2.2.map cv)) (r.2.1 + r.2.2.length) ∧ ∀ x ∈ r.2.2, x.1.1.length = 32 := by
 unfold EP at h
 split at h
 ·split at h
  ·split at h
   ·rename_i p hp
    split at h
    ·rename_i es ck
     split at h
     ·rename_i l hl
      split at h
      ·rename_i hle
       injection h with h
       subst h
       obtain ⟨q1, q2⟩ := A3 hp
       obtain ⟨a1, a2⟩ := tM hl
       have hle := Nat.le_of_ble_eq_true hle
       refine ⟨_, _, rfl, q1, q2, ?_, a2⟩
       have e1 : es.length = l.length := by rw [a1, pM, List.length_map]
       rw [← a1]
       congr 1
       show ck = ck - es.length + l.length
       omega
      ·cases h
     ·cases h
    ·cases h
   ·cases h
  ·cases h
 ·cases h
end Go.Am.Ytlgebaofkolkoaa.Ins
set_option linter.unusedSimpArgs false
set_option linter.unusedVariables false
set_option linter.defProp false
set_option maxRecDepth 10000
namespace Go.Am.Ytlgebaofkolkoaa.Ins
open Go Go.Am Go.Proofs
def dat (i : Nat) : Edge := ⟨i, .data⟩
def pha (i : Nat) : Edge := ⟨i, .phase⟩
def GU (b m c ty : Nat) (pos : String) : Array Oper := #[
 { dst := some b, op := .move (.tmp m), type := 161, pos := pos, after := #[], guard := none },
 { dst := some (b + 1), op := .fieldAddr ty (.tmp c) 0, type := 0, pos := pos, after := #[], guard := none },
 { dst := some (b + 2), op := .load 28 (.tmp (b + 1)), type := 28, pos := pos, after := #[dat 1], guard := none },
 { dst := some (b + 3), op := .lookup 161 (.tmp b) (.tmp (b + 2)) false, type := 3, pos := pos, after := #[dat 0, dat 2], guard := none },
 { dst := some (b + 4), op := .binOp .add 3 (.tmp (b + 3)) (.const (.int .i64 1)) 3, type := 3, pos := pos, after := #[dat 3], guard := none },
 { dst := some (b + 5), op := .mapEntry 161 (.tmp b) (.tmp (b + 2)), type := 0, pos := pos, after := #[dat 0, dat 2, pha 0, pha 1, pha 2, ⟨3, .textOnly .mapOpAssignEntry⟩, ⟨4, .textOnly .mapOpAssignEntry⟩], guard := none },
 { dst := some (b + 6), op := .extract (.tmp (b + 5)) 1, type := 3, pos := pos, after := #[dat 5], guard := none },
 { dst := none, op := .entryStore 161 (.tmp b) (.tmp (b + 6)) (.tmp (b + 4)), type := 0, pos := pos, after := #[dat 0, dat 6, dat 4, ⟨5, .chain⟩, pha 0, pha 1, pha 2, pha 3, pha 4, pha 5, pha 6], guard := none }]
def lY : Nat → List Nat
 | 2 => [1] | 3 => [0, 2] | 4 => [3] | 5 => [0, 1, 2] | 6 => [5] | 7 => [0, 1, 2, 3, 4, 5, 6] | _ => []
theorem TU {b m c ty : Nat} {pos : String} {i : Nat} {o : Oper} (hi : (GU b m c ty pos)[i]? = some o) {S : Nat → Prop} (h : ∀ e ∈ o.after, Region.binds .any e = true → S e.on) : ∀ k ∈ lY i, S k := by
 have hlt : i < 8 := by
  have := (Array.getElem?_eq_some_iff.1 hi).1
  exact this
 have hb1 : ∀ k, Region.binds .any (dat k) = true := fun k => rfl
 have hb2 : ∀ k, Region.binds .any (pha k) = true := fun k => rfl
 match i, hlt with
 | 0, _ => intro k hk; cases hk
 | 1, _ => intro k hk; cases hk
 | 2, _ =>
  injection hi with hi; subst hi; intro k hk
  simp only [lY, List.mem_cons, List.not_mem_nil, or_false] at hk
  subst hk
  ·exact h (dat 1) (Array.mem_def.2 (List.mem_of_getElem? (i := 0) rfl)) (hb1 _)
 | 3, _ =>
  injection hi with hi; subst hi; intro k hk
  simp only [lY, List.mem_cons, List.not_mem_nil, or_false] at hk
  rcases hk with rfl | rfl
  ·exact h (dat 0) (Array.mem_def.2 (List.mem_of_getElem? (i := 0) rfl)) (hb1 _)
  ·exact h (dat 2) (Array.mem_def.2 (List.mem_of_getElem? (i := 1) rfl)) (hb1 _)
 | 4, _ =>
  injection hi with hi; subst hi; intro k hk
  simp only [lY, List.mem_cons, List.not_mem_nil, or_false] at hk
  subst hk
  ·exact h (dat 3) (Array.mem_def.2 (List.mem_of_getElem? (i := 0) rfl)) (hb1 _)
 | 5, _ =>
  injection hi with hi; subst hi; intro k hk
  simp only [lY, List.mem_cons, List.not_mem_nil, or_false] at hk
  rcases hk with rfl | rfl | rfl
  ·exact h (pha 0) (Array.mem_def.2 (List.mem_of_getElem? (i := 2) rfl)) (hb2 _)
  ·exact h (pha 1) (Array.mem_def.2 (List.mem_of_getElem? (i := 3) rfl)) (hb2 _)
  ·exact h (pha 2) (Array.mem_def.2 (List.mem_of_getElem? (i := 4) rfl)) (hb2 _)
 | 6, _ =>
  injection hi with hi; subst hi; intro k hk
  simp only [lY, List.mem_cons, List.not_mem_nil, or_false] at hk
  subst hk
  ·exact h (dat 5) (Array.mem_def.2 (List.mem_of_getElem? (i := 0) rfl)) (hb1 _)
 | 7, _ =>
  injection hi with hi; subst hi; intro k hk
  simp only [lY, List.mem_cons, List.not_mem_nil, or_false] at hk
  rcases hk with rfl | rfl | rfl | rfl | rfl | rfl | rfl
  ·exact h (pha 0) (Array.mem_def.2 (List.mem_of_getElem? (i := 4) rfl)) (hb2 _)
  ·exact h (pha 1) (Array.mem_def.2 (List.mem_of_getElem? (i := 5) rfl)) (hb2 _)
  ·exact h (pha 2) (Array.mem_def.2 (List.mem_of_getElem? (i := 6) rfl)) (hb2 _)
  ·exact h (pha 3) (Array.mem_def.2 (List.mem_of_getElem? (i := 7) rfl)) (hb2 _)
  ·exact h (pha 4) (Array.mem_def.2 (List.mem_of_getElem? (i := 8) rfl)) (hb2 _)
  ·exact h (pha 5) (Array.mem_def.2 (List.mem_of_getElem? (i := 9) rfl)) (hb2 _)
  ·exact h (pha 6) (Array.mem_def.2 (List.mem_of_getElem? (i := 10) rfl)) (hb2 _)
structure J (b : Nat) (tm0 : List a9) (val : Nat → a9) (H0 H1 H2 : Hp) (l : Array Bool) (tm : List a9) (h : Hp) : Prop where
 sz : l.size = 8
 len : tm.length = tm0.length
 VB : ∀ k, k < 7 → l.getD k false = true → tm[b + k]? = some (val k)
 rest : ∀ x, x < b ∨ b + 7 ≤ x → tm[x]? = tm0[x]?
 dp : ∀ k, l.getD k false = true → ∀ j ∈ lY k, l.getD j false = true
 heap : h = if l.getD 7 false = true then H2 else if l.getD 5 false = true then H1 else H0
theorem J.put {b : Nat} {tm0 : List a9} {val : Nat → a9} {H0 H1 H2 : Hp} {l : Array Bool} {tm : List a9} {h : Hp} (j : J b tm0 val H0 H1 H2 l tm h) (hb : b + 7 ≤ tm0.length) {i : Nat} (hi : i < 8) (hn : l.getD i false = false) (hd : ∀ k ∈ lY i, l.getD k false = true)
  {d : Option Tmp} {v : a9} (hdst : (i < 7 ∧ d = some (b + i) ∧ v = val i) ∨ (i = 7 ∧ d = none)) {h' : Hp} (hh : h' = if (i = 7 ∨ l.getD 7 false = true) then H2 else if (i = 5 ∨ l.getD 5 false = true) then H1 else H0) :
  J b tm0 val H0 H1 H2 (l.setIfInBounds i true) (bQ tm d v) h' := by
 have get : ∀ k, (l.setIfInBounds i true).getD k false = true ↔ (k = i ∨ l.getD k false = true) := fun k => by
  by_cases hk : k = i
  ·subst hk
   have : k < l.size := by rw [j.sz]; exact hi
   simp [Array.getD, this]
  ·have hk' : ¬ i = k := fun h => hk h.symm
   simp only [hk, false_or, Array.getD_eq_getD_getElem?, Array.getElem?_setIfInBounds, hk']; rw [if_neg (fun w => w)]
 refine ⟨by simpa using j.sz, by rw [pF, j.len], fun k hk hl => ?_, fun x hx => ?_, fun k hl q hq => ?_, ?_⟩
 ·rw [lV]
  rcases hdst with ⟨q1, rfl, rfl⟩ | ⟨q1, rfl⟩
  ·by_cases c : k = i
   ·subst c
    rw [if_pos rfl, if_pos (by rw [j.len]; omega)]
   ·rw [if_neg (fun w => c (by injection w with w; omega))]
    exact j.VB k hk (((get k).1 hl).resolve_left c)
  ·rw [if_neg (fun w => by cases w)]
   exact j.VB k hk (((get k).1 hl).resolve_left (by omega))
 ·rw [lV]
  rcases hdst with ⟨q1, rfl, rfl⟩ | ⟨q1, rfl⟩
  ·rw [if_neg (fun w => by injection w with w; omega)]
   exact j.rest x hx
  ·rw [if_neg (fun w => by cases w)]
   exact j.rest x hx
 ·rcases (get k).1 hl with rfl | hl
  ·exact (get q).2 (.inr (hd q hq))
  ·exact (get q).2 (.inr (j.dp k hl q hq))
 ·rw [hh]
  have e7 : ((l.setIfInBounds i true).getD 7 false = true) ↔ (i = 7 ∨ l.getD 7 false = true) := (get 7).trans (or_congr_left eq_comm)
  have e5 : ((l.setIfInBounds i true).getD 5 false = true) ↔ (i = 5 ∨ l.getD 5 false = true) := (get 5).trans (or_congr_left eq_comm)
  simp only [e7, e5]
theorem AB : ∀ (ts : List Nat) (tm : List a9), (vJ tm ts).length = tm.length
 | [], _ => rfl
 | t :: ts, tm => by rw [vJ, AB ts, jQ]
theorem AD : ∀ (ts : List Nat) (tm : List a9) (i : Nat) (v : a9), (vJ tm ts)[i]? = some v → v = .aA ∨ (i ∉ ts ∧ tm[i]? = some v)
 | [], tm, i, v, h => .inr ⟨List.not_mem_nil, h⟩
 | t :: ts, tm, i, v, h => by
  rcases AD ts _ i v h with h | ⟨h1, h2⟩
  ·exact .inl h
  ·have e := lV tm (some t) .aA i
   simp only [bQ] at e
   rw [e] at h2
   by_cases c : t = i
   ·subst c
    rw [if_pos rfl] at h2
    split at h2
    ·injection h2 with h2; exact .inl h2.symm
    ·cases h2
   ·rw [if_neg (fun w => c (by injection w))] at h2
    exact .inr ⟨fun w => (List.mem_cons.1 w).elim (fun w => c w.symm) h1, h2⟩
theorem OF {ρ : Ren} {m : Mem} {tm tm2 : List a9} {c : Array Value} (h : RL ρ m tm c) (hl : tm2.length = tm.length) (hg : ∀ (i : Nat) (v : a9), tm2[i]? = some v → v = a9.aA ∨ tm[i]? = some v) : RL ρ m tm2 c :=
 ⟨by rw [hl]; exact h.len, fun i v x hv hx => by
  rcases hg i v hv with rfl | hv
  ·exact .aA x
  ·exact h.at_ i v x hv hx⟩
theorem KN {b mm cc ty : Nat} {pos : String} {tm0 : List a9} {H0 H1 H2 : Hp} {n mid x : Nat} {p : Pt} {z0 st : Int} (hmm : mm < b ∨ b + 7 ≤ mm) (hcc : cc < b ∨ b + 7 ≤ cc) (hlen : b + 7 ≤ tm0.length)
  (hfa : ∀ x, fieldAddr env ty (.ptr x 0) 0 = M.pure (.ptr x 0)) (hm : nth tm0 mm undef = .map mid) (hc : nth tm0 cc undef = .ptr x 0)
  (F1 : Ex (iN env 161 (.map mid) (ptA p) false) H0 n (.int .i64 z0) H0) (F2 : Ex (iN env 161 (.map mid) (ptA p) false) H1 n (.int .i64 z0) H1)
  (F3 : Ex (iM env 161 (.map mid) (ptA p)) H0 n (a9.tup [.int .i64 z0, .int .i64 st]) H1) (F4 : Ex (gI (.map mid) (.int .i64 st) (.int .i64 (IntKind.i64.wrap (z0 + 1)))) H1 n undef H2)
  (F5 : Ex (load env 28 (.ptr x 0)) H0 n (ptA p) H0)
  {val : Nat → a9} (v0 : val 0 = .map mid) (v1 : val 1 = .ptr x 0) (v2 : val 2 = ptA p) (v3 : val 3 = .int .i64 z0) (v4 : val 4 = .int .i64 (IntKind.i64.wrap (z0 + 1))) (v5 : val 5 = a9.tup [.int .i64 z0, .int .i64 st]) (v6 : val 6 = .int .i64 st) :
  ∀ listed tm h, listed.size = (GU b mm cc ty pos).size → J b tm0 val H0 H1 H2 listed tm h → ∀ i o, (GU b mm cc ty pos)[i]? = some o → listed.getD i false = false → (∀ e ∈ o.after, Region.binds .any e = true → listed.getD e.on false = true) →
   ∃ v h', Ex (opV env (aE env) (GU b mm cc ty pos).toList o tm) h n v h' ∧ J b tm0 val H0 H1 H2 (listed.setIfInBounds i true) (bQ tm o.dst v) h' := by
 intro listed tm h hsz j i o hi hn hall
 have hd : ∀ k ∈ lY i, listed.getD k false = true := TU (S := fun k => listed.getD k false = true) hi hall
 have hi8 : i < 8 := (Array.getElem?_eq_some_iff.1 hi).1
 have nv : ∀ k, k < 7 → listed.getD k false = true → nth tm (b + k) undef = val k := fun k hk hl => by rw [fU, j.VB k hk hl]; rfl
 have nr : ∀ y, y < b ∨ b + 7 ≤ y → nth tm y undef = nth tm0 y undef := fun y hy => by rw [fU, fU, j.rest y hy]
 have no7 : i < 7 → listed.getD 7 false = false := fun q => by
  cases e : listed.getD 7 false with
  | false => rfl
  | true =>
   have := j.dp 7 e i (by simp only [lY, List.mem_cons, List.not_mem_nil, or_false]; omega)
   rw [hn] at this; cases this
 match i, hi8 with
 | 0, _ =>
  injection hi with hi; subst hi
  have h7 := no7 (by omega)
  refine ⟨val 0, h, ?_, j.put hlen (by omega) hn hd (.inl ⟨by omega, rfl, rfl⟩) (by have := j.heap; simpa using this)⟩
  rw [kI rfl, v0]
  show Ex (M.pure (nth tm mm undef)) _ _ _ _
  rw [nr mm hmm, hm]; exact Ex.pure
 | 1, _ =>
  injection hi with hi; subst hi
  refine ⟨val 1, h, ?_, j.put hlen (by omega) hn hd (.inl ⟨by omega, rfl, rfl⟩) (by have := j.heap; simpa using this)⟩
  rw [kI rfl, v1]
  show Ex (fieldAddr env ty (nth tm cc undef) 0) _ _ _ _
  rw [nr cc hcc, hc, hfa]; exact Ex.pure
 | 2, _ =>
  injection hi with hi; subst hi
  have h7 := no7 (by omega)
  have h5 : listed.getD 5 false = false := by
   cases e : listed.getD 5 false with
   | false => rfl
   | true => have := j.dp 5 e 2 (by simp [lY]); rw [hn] at this; cases this
  have hh : h = H0 := by have := j.heap; rw [h7, h5] at this; simpa using this
  refine ⟨val 2, h, ?_, j.put hlen (by omega) hn hd (.inl ⟨by omega, rfl, rfl⟩) (by have := j.heap; simpa using this)⟩
  rw [kI rfl, v2]
  show Ex (load env 28 (nth tm (b + 1) undef)) _ _ _ _
  rw [nv 1 (by omega) (hd 1 (by simp [lY])), v1, hh]; exact F5
 | 3, _ =>
  injection hi with hi; subst hi
  have h7 := no7 (by omega)
  have hh := j.heap
  rw [h7] at hh
  refine ⟨val 3, h, ?_, j.put hlen (by omega) hn hd (.inl ⟨by omega, rfl, rfl⟩) (by have := j.heap; simpa using this)⟩
  rw [kI rfl, v3]
  show Ex (iN env 161 (nth tm b undef) (nth tm (b + 2) undef) false) _ _ _ _
  have n0 : nth tm b undef = .map mid := by have := nv 0 (by omega) (hd 0 (by simp [lY])); rw [v0] at this; exact this
  rw [n0, nv 2 (by omega) (hd 2 (by simp [lY])), v2]
  cases e5 : listed.getD 5 false with
  | false => rw [e5] at hh; rw [show h = H0 by simpa using hh]; exact F1
  | true => rw [e5] at hh; rw [show h = H1 by simpa using hh]; exact F2
 | 4, _ =>
  injection hi with hi; subst hi
  refine ⟨val 4, h, ?_, j.put hlen (by omega) hn hd (.inl ⟨by omega, rfl, rfl⟩) (by have := j.heap; simpa using this)⟩
  rw [kI rfl, v4]
  show Ex (binOp env .add 3 (nth tm (b + 3) undef) (.int .i64 1)) _ _ _ _
  rw [nv 3 (by omega) (hd 3 (by simp [lY])), v3]; exact Ex.pure
 | 5, _ =>
  injection hi with hi; subst hi
  have h7 := no7 (by omega)
  have hh := j.heap
  rw [h7, hn] at hh
  have hh : h = H0 := by simpa using hh
  refine ⟨val 5, H1, ?_, j.put hlen (by omega) hn hd (.inl ⟨by omega, rfl, rfl⟩) (by rw [h7]; simp)⟩
  rw [kI rfl, v5]
  show Ex (iM env 161 (nth tm b undef) (nth tm (b + 2) undef)) _ _ _ _
  have n0 : nth tm b undef = .map mid := by have := nv 0 (by omega) (hd 0 (by simp [lY])); rw [v0] at this; exact this
  have l2 : listed.getD 2 false = true := hd 2 (by simp [lY])
  rw [n0, nv 2 (by omega) l2, v2, hh]; exact F3
 | 6, _ =>
  injection hi with hi; subst hi
  refine ⟨val 6, h, ?_, j.put hlen (by omega) hn hd (.inl ⟨by omega, rfl, rfl⟩) (by have := j.heap; simpa using this)⟩
  rw [kI rfl, v6]
  show Ex (extract (nth tm (b + 5) undef) 1) _ _ _ _
  rw [nv 5 (by omega) (hd 5 (by simp [lY])), v5]; exact Ex.pure
 | 7, _ =>
  injection hi with hi; subst hi
  have hh := j.heap
  rw [hn, hd 5 (by simp [lY])] at hh
  have hh : h = H1 := by simpa using hh
  refine ⟨undef, H2, ?_, j.put hlen (by omega) hn hd (.inr ⟨rfl, rfl⟩) (by simp)⟩
  rw [kI rfl]
  show Ex (gI (nth tm b undef) (nth tm (b + 6) undef) (nth tm (b + 4) undef)) _ _ _ _
  have n0 : nth tm b undef = .map mid := by have := nv 0 (by omega) (hd 0 (by simp [lY])); rw [v0] at this; exact this
  rw [n0, nv 6 (by omega) (hd 6 (by simp [lY])), nv 4 (by omega) (hd 4 (by simp [lY])), v6, v4, hh]; exact F4
theorem EO (b mm cc ty : Nat) (pos : String) (id : Nat) (rnd : Option Nat) (hmm : mm < b ∨ b + 7 ≤ mm) (hcc : cc < b ∨ b + 7 ≤ cc)
  (hfa : ∀ x, fieldAddr env ty (.ptr x 0) 0 = M.pure (.ptr x 0)) :
  sH env.P rnd (.region id (GU b mm cc ty pos) true) (qO mm cc [b, b + 1, b + 2, b + 3, b + 4, b + 5, b + 6]) := by
 intro tm e tm' s s' h ho ρ m w a o n Q hr hf ht hn hQ
 unfold qO at h
 split at h
 case h_2 => exact (aB h).elim
 rename_i mid hm
 split at h
 case h_2 => exact (aB h).elim
 rename_i x off hc
 split at h
 case h_2 => exact (aB h).elim
 rename_i hchk
 rw [Bool.and_eq_true] at hchk
 have hoff := Nat.eq_of_beq_eq_true hchk.1
 subst hoff
 have hlen : b + 7 ≤ tm.length := by
  have := List.all_eq_true.1 hchk.2 (b + 6) (by simp)
  have : b + 6 + 1 ≤ tm.length := Nat.le_of_ble_eq_true this
  omega
 obtain ⟨bx, s1, h1, h2⟩ := M.aF h
 obtain ⟨hg1, e1⟩ := cV h1
 obtain ⟨bm, s2, h3, h4⟩ := M.aF h2
 obtain ⟨hg2, e2⟩ := cV h3
 split at h4
 case h_2 => exact (aB h4).elim
 rename_i r hb1
 obtain ⟨_, s3, h5, h6⟩ := M.aF h4
 obtain ⟨he, rfl⟩ := aC h6
 injection he with q1 q2
 subst q1; subst q2
 obtain ⟨hlive, hn3, hset⟩ := oS h5
 obtain ⟨cells, t, rfl, hcells, hp32, rfl, hl32⟩ := GS hb1
 obtain ⟨p, bb, l⟩ := r
 simp only at hcells hp32 hl32 hset hg2 hlive
 rw [e1.heap] at hg2
 have hmap : eF s.heap.get mid bb (l.map cv) := by unfold eF; rw [List.length_map]; exact hg2
 have hkey : ptA p = .agg (cells.take 33) := by rw [hcells]; rfl
 have F5 : Ex (load env 28 (.ptr x 0)) s.heap.get s.next (ptA p) s.heap.get := by
  have hl : 33 ≤ cells.length := by
   have : (cells.take 33).length = 33 := by rw [hcells]; exact bW hp32
   rw [List.length_take] at this; omega
  have := Row.agg (E := env) (n := s.next) (off := 0) (show Row s.heap.get x cells from ⟨t, hg1⟩) jJ rfl (by show 0 + 33 ≤ _; omega)
  rw [List.drop_zero] at this
  rw [hkey]
  exact .rd this
 have hpq : ∀ e ∈ l.map cv, bU env 28 (ptA p) e.1 = M.pure (isK (ptA p) e.1) := fun e he => by
  obtain ⟨y, hy, rfl⟩ := List.mem_map.1 he
  exact wL p y.1 hp32 (hl32 y hy)
 have main : ∃ (z0 st : Int) (H1 H2 : Hp), Ex (iN env 161 (.map mid) (ptA p) false) s.heap.get s.next (.int .i64 z0) s.heap.get ∧ Ex (iN env 161 (.map mid) (ptA p) false) H1 s.next (.int .i64 z0) H1 ∧
   Ex (iM env 161 (.map mid) (ptA p)) s.heap.get s.next (a9.tup [.int .i64 z0, .int .i64 st]) H1 ∧ Ex (gI (.map mid) (.int .i64 st) (.int .i64 (IntKind.i64.wrap (z0 + 1)))) H1 s.next undef H2 ∧
   eF H2 mid bb ((bump p l).map cv) ∧ ∀ j, j ≠ mid → H2 j = s.heap.get j := by
  have hat := AE (p := p) l 0
  have L0 := hmap.lookup (n := s.next) FA (uK p hp32) hpq z3o
  cases hi : mG p l 0 with
  | some y =>
   obtain ⟨i, z⟩ := y
   rw [hi] at hat
   obtain ⟨_, hlt, hget⟩ := DV hi
   rw [Nat.sub_zero] at hlt hget
   rw [hat] at L0
   have w1 := hmap.KG (n := s.next) FA (uK p hp32) hpq hat (fun e he => by
    rw [List.getElem?_map, hget] at he
    injection he with he
    rw [← he]; exact HR p)
   obtain ⟨H2, w2, m2, k2⟩ := hmap.store (n := s.next) (i := i) (by rw [List.length_map]; exact hlt) (v := .int .i64 (IntKind.i64.wrap (z + 1)))
   refine ⟨z, _, s.heap.get, H2, .rd L0, .rd L0, .wr w1, .wr w2, ?_, k2⟩
   have e : (l.map cv).modify i (fun e => (e.1, a9.int .i64 (IntKind.i64.wrap (z + 1)))) = (bump p l).map cv := by
    unfold bump
    rw [hi]
    refine List.ext_getElem? fun q => ?_
    rw [List.getElem?_modify, List.getElem?_map, List.getElem?_map, List.getElem?_modify]
    cases l[q]? with
    | none => rfl
    | some y =>
     simp only [Option.map_some, Option.map_eq_map]
     by_cases c : i = q
     ·simp only [if_pos c]; rfl
     ·simp only [if_neg c]
   rw [← e]; exact m2
  | none =>
   rw [hi] at hat
   rw [hat] at L0
   obtain ⟨H1, w1, m1, k1⟩ := hmap.KH (n := s.next) FA (uK p hp32) hpq hat z3o
   have hpq1 : ∀ e ∈ l.map cv ++ [(ptA p, a9.int .i64 0)], bU env 28 (ptA p) e.1 = M.pure (isK (ptA p) e.1) := fun e he => by
    rcases List.mem_append.1 he with he | he
    ·exact hpq e he
    ·rw [List.mem_singleton] at he
     subst he
     exact wL p p hp32 hp32
   have L1 := m1.lookup (n := s.next) FA (uK p hp32) hpq1 z3o
   have hat1 : ∀ (q : List (a9 × a9)) (i : Nat), dB (isK (ptA p)) q i = none → dB (isK (ptA p)) (q ++ [(ptA p, a9.int .i64 0)]) i = some (i + q.length, .int .i64 0) := fun q => by
    induction q with
    | nil => intro i _; simp only [List.nil_append, dB, mF.2 rfl, if_pos, List.length_nil, Nat.add_zero]
    | cons y q ih =>
     intro i hq
     simp only [dB] at hq
     split at hq
     ·cases hq
     ·rename_i c
      simp only [List.cons_append, dB, if_neg c, ih (i + 1) hq, List.length_cons]
      rw [show i + 1 + q.length = i + (q.length + 1) by omega]
   rw [hat1 _ _ hat] at L1
   obtain ⟨H2, w2, m2, k2⟩ := m1.store (n := s.next) (i := (l.map cv).length) (by simp) (v := .int .i64 (IntKind.i64.wrap (0 + 1)))
   refine ⟨0, _, H1, H2, .rd L0, .rd L1, .wr w1, .wr w2, ?_, fun j hj => by rw [k2 j hj, k1 j hj]⟩
   have e : (l.map cv ++ [(ptA p, a9.int .i64 0)]).modify (l.map cv).length (fun e => (e.1, a9.int .i64 (IntKind.i64.wrap (0 + 1)))) = (bump p l).map cv := by
    unfold bump
    rw [hi, List.map_append]
    refine List.ext_getElem? fun q => ?_
    rw [List.getElem?_modify]
    by_cases c : q < (l.map cv).length
    ·rw [List.getElem?_append_left c, List.getElem?_append_left c]
     simp only [if_neg (show ¬ (l.map cv).length = q by omega)]; simp
    ·rw [List.getElem?_append_right (by omega), List.getElem?_append_right (by omega)]
     by_cases d : q = (l.map cv).length
     ·subst d
      simp [cv, show IntKind.i64.wrap 1 = 1 from rfl]
     ·rw [List.getElem?_eq_none (by simp only [List.length_cons, List.length_nil]; omega), List.getElem?_eq_none (by simp only [List.map_cons, List.map_nil, List.length_cons, List.length_nil]; omega)]; rfl
   rw [← e]; exact m2
 obtain ⟨z0, st, H1, H2, F1, F2, F3, F4, hm2, hk2⟩ := main
 have hH2 : s'.heap.get = H2 := by
  funext j
  rw [hset j]
  by_cases c : j = mid
  ·subst c
   rw [if_pos rfl]
   have := hm2
   unfold eF at this
   rw [this, List.length_map]
  ·rw [if_neg c, e2.heap, e1.heap, hk2 j c]
 have hnx : s'.next = s.next := by rw [hn3, e2.next, e1.next]
 let val : Nat → a9 := fun k => match k with
  | 0 => .map mid | 1 => .ptr x 0 | 2 => ptA p | 3 => .int .i64 z0 | 4 => .int .i64 (IntKind.i64.wrap (z0 + 1)) | 5 => a9.tup [.int .i64 z0, .int .i64 st] | _ => .int .i64 st
 have plan := KN (pos := pos) (n := s.next) (val := val) hmm hcc hlen hfa hm hc F1 F2 F3 F4 F5 rfl rfl rfl rfl rfl rfl rfl
 refine wpIn_region_any env.I1 (N5 (n := s.next) (J := J b tm val s.heap.get H1 H2) (lD (E := env)) plan rfl (ρ₀ := ρ) (m := m) (w₀ := w) (a₀ := a) (fun listed tm1 h1 a1 w1 ρ1 hall hj hr1 ht1 hle hnew hfr hd => ?_) 8 (Array.replicate 8 false) rfl (by simp) a _ ρ s.heap.get tm ?_ hr.drew ht (.refl ρ) (fun _ h => h) (.drew w) rfl)
 ·have hh := hj.heap
  rw [if_pos (hall 7 (show 7 < 8 by decide))] at hh
  subst hh
  refine hQ _ _ _ ρ1 [] ⟨?_, ?_, .normal, hd, .nil m, fun _ => rfl⟩
  ·rw [Mem.dT]
   exact ⟨hle, fun id q => .inl (hnew id q), fun _ _ h => h, by rw [hH2]; exact hr1, hfr, by rw [hnx]; exact Nat.le_refl _⟩
  ·rw [Mem.dT]
   refine OF ht1 (by rw [AB, hj.len]) fun i v hv => ?_
   rcases AD _ _ i v hv with q | ⟨q1, q2⟩
   ·exact .inl q
   ·refine .inr ?_
    rw [hj.rest i (by simp at q1; omega)]
    exact q2
 ·have none : ∀ k, ¬ ((Array.replicate 8 false).getD k false = true) := fun k => by
   by_cases hk : k < 8 <;> simp [Array.getD, hk]
  exact ⟨rfl, rfl, fun k _ q => absurd q (none k), fun _ _ => rfl, fun k q => absurd q (none k), by rw [if_neg (none 7), if_neg (none 5)]⟩
end Go.Am.Ytlgebaofkolkoaa.Ins
set_option linter.unusedSimpArgs false
set_option linter.unusedVariables false
set_option linter.defProp false
set_option maxRecDepth 10000
namespace Go.Am.Ytlgebaofkolkoaa.Ins
open Go Go.Am Go.Proofs
theorem aV8 (x : Nat) : fieldAddr env 31 (.ptr x 0) 0 = M.pure (.ptr x 0) := rfl
theorem aV7 (x : Nat) : fieldAddr env 48 (.ptr x 0) 0 = M.pure (.ptr x 0) := rfl
noncomputable def tZ : List a9 → M (eJ × List a9) := qO 3 5 [17, 18, 19, 20, 21, 22, 23]
noncomputable def qQ : List a9 → M (eJ × List a9) := qO 3 8 [73, 74, 75, 76, 77, 78, 79]
noncomputable def BE : pX Try.prog := ⟨113, 4, .region 4 (GU 17 3 5 31 "coin.go:24") true, tZ, fun rnd => EO 17 3 5 31 "coin.go:24" 4 rnd (by omega) (by omega) aV8⟩
noncomputable def sS : pX Try.prog := ⟨113, 12, .region 12 (GU 73 3 8 48 "coin.go:32") true, qQ, fun rnd => EO 73 3 8 48 "coin.go:32" 12 rnd (by omega) (by omega) aV7⟩
theorem sD {P : Program} (h : pX P) (l : List (pX P)) {c : Code} (hc : h.c = c) (hn : (h.fn.beq h.fn && h.id.beq h.id) = true := by simp) : fN (h :: l) h.fn h.id c = some h.act := by
 unfold fN
 rw [hn]
 simp only [hc, if_pos]
end Go.Am.Ytlgebaofkolkoaa.Ins
set_option linter.unusedSimpArgs false
set_option linter.unusedVariables false
set_option linter.defProp false
set_option maxRecDepth 10000
namespace Go.Am.Ytlgebaofkolkoaa
open Go Go.Am
def iY (a b : Int) : Int := if a < b then -1 else if b < a then 1 else 0
def orI (a b : Int) : Int := if a = 0 then b else a
structure oN {α : Type} (c : α → α → Int) : Prop where
 refl : ∀ a, c a a = 0
 pW : ∀ a b, c b a = - c a b
 lt : ∀ a b d, c a b < 0 → c b d < 0 → c a d < 0
 eqv : ∀ a b d, c a b = 0 → c a d = c b d
theorem qN {a b : Int} : iY a b < 0 ↔ a < b := by unfold iY; split <;> (try split) <;> omega
theorem mI {a b : Int} : iY a b = 0 ↔ a = b := by unfold iY; split <;> (try split) <;> omega
theorem sV : oN iY where
 refl := fun a => mI.2 rfl
 pW := fun a b => by unfold iY; split <;> (try split) <;> (try split) <;> (try split) <;> omega
 lt := fun a b d h1 h2 => by rw [qN] at *; omega
 eqv := fun a b d h => by rw [mI.1 h]
theorem oH : ∀ a : List UInt8, Go.Lib.compareBytes a a = 0
 | [] => rfl
 | x :: a => by
  simp only [Go.Lib.compareBytes, UInt8.lt_irrefl, if_false]
  exact oH a
theorem wN : ∀ a b : List UInt8, Go.Lib.compareBytes b a = - Go.Lib.compareBytes a b
 | [], [] => rfl
 | [], _ :: _ => rfl
 | _ :: _, [] => rfl
 | x :: a, y :: b => by
  simp only [Go.Lib.compareBytes]
  by_cases h1 : x < y
  ·have h2 : ¬ y < x := fun h => by rw [UInt8.lt_iff_toNat_lt] at *; omega
   rw [if_pos h1, if_neg h2, if_pos h1]; rfl
  ·by_cases h2 : y < x
   ·rw [if_pos h2, if_neg h1, if_pos h2]
   ·rw [if_neg h1, if_neg h2, if_neg h2, if_neg h1]; exact wN a b
theorem AT : ∀ a b : List UInt8, Go.Lib.compareBytes a b = 0 → a = b
 | [], [], _ => rfl
 | [], _ :: _, h => by simp [Go.Lib.compareBytes] at h
 | _ :: _, [], h => by simp [Go.Lib.compareBytes] at h
 | x :: a, y :: b, h => by
  simp only [Go.Lib.compareBytes] at h
  by_cases h1 : x < y
  ·rw [if_pos h1] at h; omega
  ·rw [if_neg h1] at h
   by_cases h2 : y < x
   ·rw [if_pos h2] at h; omega
   ·rw [if_neg h2] at h
    have e : x = y := by
     apply UInt8.toNat_inj.1
     rw [UInt8.lt_iff_toNat_lt] at *; omega
    rw [e, AT a b h]
theorem Q7 : ∀ a b d : List UInt8, Go.Lib.compareBytes a b < 0 → Go.Lib.compareBytes b d < 0 → Go.Lib.compareBytes a d < 0
 | [], [], d, h, _ => by simp [Go.Lib.compareBytes] at h
 | [], _ :: _, [], _, h => by simp [Go.Lib.compareBytes] at h
 | [], _ :: _, _ :: _, _, _ => by simp [Go.Lib.compareBytes]
 | _ :: _, [], _, h, _ => by simp [Go.Lib.compareBytes] at h
 | _ :: _, _ :: _, [], _, h => by simp [Go.Lib.compareBytes] at h
 | x :: a, y :: b, z :: d, h1, h2 => by
  simp only [Go.Lib.compareBytes] at *
  by_cases p : x < y
  ·by_cases q : y < z
   ·rw [if_pos (by rw [UInt8.lt_iff_toNat_lt] at *; omega)]; decide
   ·by_cases q2 : z < y
    ·rw [if_neg q, if_pos q2] at h2; omega
    ·rw [if_pos (by rw [UInt8.lt_iff_toNat_lt] at *; omega)]; decide
  ·by_cases p2 : y < x
   ·rw [if_neg p, if_pos p2] at h1; omega
   ·rw [if_neg p, if_neg p2] at h1
    by_cases q : y < z
    ·rw [if_pos (by rw [UInt8.lt_iff_toNat_lt] at *; omega)]; decide
    ·by_cases q2 : z < y
     ·rw [if_neg q, if_pos q2] at h2; omega
     ·rw [if_neg q, if_neg q2] at h2
      rw [if_neg (by rw [UInt8.lt_iff_toNat_lt] at *; omega), if_neg (by rw [UInt8.lt_iff_toNat_lt] at *; omega)]
      exact Q7 a b d h1 h2
theorem qF : oN Go.Lib.compareBytes := ⟨oH, wN, Q7, fun a b d h => by rw [AT a b h]⟩
theorem oN.or {α : Type} {c1 c2 : α → α → Int} (a1 : oN c1) (a2 : oN c2) : oN (fun a b => orI (c1 a b) (c2 a b)) where
 refl := fun a => by simp [orI, a1.refl, a2.refl]
 pW := fun a b => by
  have h1 := a1.pW a b
  have h2 := a2.pW a b
  simp only [orI]
  by_cases h : c1 a b = 0
  ·rw [if_pos (by omega), if_pos h, h2]
  ·rw [if_neg (by omega), if_neg h, h1]
 lt := fun a b d h1 h2 => by
  simp only [orI] at *
  by_cases e1 : c1 a b = 0
  ·rw [if_pos e1] at h1
   rw [a1.eqv a b d e1]
   by_cases e2 : c1 b d = 0
   ·rw [if_pos e2] at h2 ⊢
    exact a2.lt a b d h1 h2
   ·rw [if_neg e2] at h2 ⊢
    exact h2
  ·rw [if_neg e1] at h1
   by_cases e2 : c1 b d = 0
   ·have e3 : c1 d a = c1 b a := by
     have := a1.eqv b d a e2
     exact this.symm
    have e4 := a1.pW d a
    have e5 := a1.pW b a
    rw [if_neg (by omega)]; omega
   ·rw [if_neg e2] at h2
    have := a1.lt a b d h1 h2
    rw [if_neg (by omega)]; exact this
 eqv := fun a b d h => by
  simp only [orI] at *
  by_cases e1 : c1 a b = 0
  ·rw [if_pos e1] at h
   rw [a1.eqv a b d e1, a2.eqv a b d h]
  ·rw [if_neg e1] at h; exact absurd h e1
theorem oN.on {α β : Type} {c : β → β → Int} (o : oN c) (f : α → β) : oN (fun a b => c (f a) (f b)) := ⟨fun a => o.refl _, fun a b => o.pW _ _, fun a b d => o.lt _ _ _, fun a b d => o.eqv _ _ _⟩
theorem oN.eqr {α : Type} {c : α → α → Int} (o : oN c) {a b d : α} (h : c a b = 0) : c d a = c d b := by
 have h1 := o.eqv a b d h
 have h2 := o.pW a d
 have h3 := o.pW b d
 omega
end Go.Am.Ytlgebaofkolkoaa
set_option linter.unusedSimpArgs false
set_option linter.unusedVariables false
set_option linter.defProp false
set_option maxRecDepth 10000
namespace Go.Am.Ytlgebaofkolkoaa.Ins
open Go Go.Am Go.Proofs
abbrev Sc := List UInt8 × Int
def kQ (b e : Sc) : Int := orI (iY b.2 e.2) (Go.Lib.compareBytes e.1 b.1)
def bet (b e : Sc) : Sc := if kQ b e < 0 then e else b
theorem BI : oN kQ := (sV.on Prod.snd).or ⟨fun a => oH _, fun a b => wN _ _, fun a b d h1 h2 => Q7 _ _ _ h2 h1, fun a b d h => by
 have e := AT _ _ h
 show Go.Lib.compareBytes d.1 a.1 = Go.Lib.compareBytes d.1 b.1
 rw [e]⟩
theorem IK {a b : Sc} (h : kQ a b = 0) : a = b := by
 unfold kQ orI at h
 split at h
 ·rename_i c
  have e1 := mI.1 c
  have e2 := AT _ _ h
  exact Prod.ext e2.symm e1
 ·contradiction
theorem R3 (b x y : Sc) : bet (bet b x) y = bet (bet b y) x := by
 have tr := BI.lt
 have an := BI.pW
 unfold bet
 by_cases h1 : kQ b x < 0
 ·rw [if_pos h1]
  by_cases h2 : kQ b y < 0
  ·rw [if_pos h2]
   have h4 := an x y
   by_cases h3 : kQ x y < 0
   ·rw [if_pos h3, if_neg (by omega)]
   ·rw [if_neg h3]
    by_cases h5 : kQ y x < 0
    ·rw [if_pos h5]
    ·rw [if_neg h5]
     exact IK (by omega)
  ·rw [if_neg h2, if_pos h1]
   by_cases h3 : kQ x y < 0
   ·exact absurd (tr b x y h1 h3) h2
   ·rw [if_neg h3]
 ·rw [if_neg h1]
  by_cases h2 : kQ b y < 0
  ·rw [if_pos h2]
   by_cases h3 : kQ y x < 0
   ·exact absurd (tr b y x h2 h3) h1
   ·rw [if_neg h3]
  ·rw [if_neg h2, if_neg h1]
theorem KS {l l' : List Sc} (h : l.Perm l') (b : Sc) : l.foldl bet b = l'.foldl bet b := by
 induction h generalizing b with
 | nil => rfl
 | cons x _ ih => exact ih _
 | swap x y l => simp only [List.foldl_cons]; rw [R3]
 | trans _ _ ih1 ih2 => exact (ih1 b).trans (ih2 b)
theorem L6 : und env 147 = M.pure (.slice 3) := rfl
theorem z3 : sizeOf env 3 = M.pure 1 := rfl
theorem f63 (id : Nat) (a b : Int) (e : TypeId) (h : Hp) (n : Nat) (hr : h id = some (.row (.l [.int .i64 a, .int .i64 b]) e)) : Wp (aQ env (aE env) 63 [.sl id 0 2 (some 2) 1]) h n fun v' h' n' => v' = .int .i64 (orI a b) ∧ h' = h ∧ n' = n := by
 refine aW ad9 ad1 ?_
 have hs : Rds h 1 (.sl id 0 2 (some 2) 1) 2 [.int .i64 a, .int .i64 b] := nO hr rfl
 have i0 := hs.idx (E := env) L6 z3 (kk := .i64) (z := 0) (j := 0) rfl (by omega) (h' := h) (n' := n)
 have i1 := hs.idx (E := env) L6 z3 (kk := .i64) (z := 1) (j := 1) rfl (by omega) (h' := h) (n' := n)
 have l0 := hs.load (E := env) ti3 rfl (k := 0 * 1) (n := n) rfl
 have l1 := hs.load (E := env) ti3 rfl (k := 1 * 1) (n := n) rfl
 have w1 : IntKind.i64.wrap 1 = 1 := by decide
 have w2 : IntKind.i64.wrap 2 = 2 := by decide
 by_cases ha : a = 0
 ·subst ha
  by_cases hb : b = 0
  ·subst hb
   simp only [xZ, Try.f63, Option.getD_some, List.replicate, bK, fgr, execOp, opd, fF, ofValue, bQ, put, nth, aJ, dP, builtin, qU, blr, bor, eX, fD, intOp, bZ, ended, dD, dQ, List.cons_append, List.nil_append, List.length_cons, List.length_nil, Nat.reduceSub, Int.cast_ofNat_Int, ↓reduceIte, Int.reduceLT, Int.reduceAdd, decide_true, decide_false, and_self, Nat.zero_add, Nat.zero_mul, aS, bne_self_eq_false, bT, aH i0, aH i1, aH l0, aH l1, orI, w1, w2]
  ·simp only [xZ, Try.f63, Option.getD_some, List.replicate, bK, fgr, execOp, opd, fF, ofValue, bQ, put, nth, aJ, dP, builtin, qU, blr, bor, eX, fD, intOp, bZ, ended, dD, dQ, List.cons_append, List.nil_append, List.length_cons, List.length_nil, Nat.reduceSub, Int.cast_ofNat_Int, C4, ↓reduceIte, Int.reduceLT, Int.reduceAdd, not_false_eq_true, decide_true, and_self, Nat.zero_add, Nat.zero_mul, aS, bne_self_eq_false, bT, aH i0, aH i1, aH l0, aH l1, orI, w1, hb]
 ·simp only [xZ, Try.f63, Option.getD_some, List.replicate, bK, fgr, execOp, opd, fF, ofValue, bQ, put, nth, aJ, dP, builtin, qU, blr, bor, eX, fD, intOp, ended, dD, dQ, List.cons_append, List.nil_append, List.length_cons, List.length_nil, Nat.reduceSub, Int.cast_ofNat_Int, C4, ↓reduceIte, Int.reduceLT, not_false_eq_true, decide_true, and_self, Nat.zero_add, Nat.zero_mul, aS, bT, aH i0, aH l0, orI, ha]
theorem f97 (h : Hp) (n : Nat) (x : Int) : Wp (aQ env (aE env) 97 [.int .i64 x]) h n fun v' h' n' => v' = .bool false ∧ h' = h ∧ n' = n := by
 refine aW au5 ap6 ?_
 simp only [K6, Try.f97, Option.getD_some, List.replicate, bK, fgr, execOp, opd, ofValue, bQ, put, nth, aJ, bor, eX, fD, intOp, ended, dD, dQ, List.cons_append, List.nil_append, List.length_cons, List.length_nil, Nat.reduceSub, decide_true, and_self, Nat.zero_add, aS, bne_self_eq_false]
theorem f64 (h : Hp) (n : Nat) (x y : Int) : Wp (aQ env (aE env) 64 [.int .i64 x, .int .i64 y]) h n fun v' h' n' => v' = .int .i64 (iY x y) ∧ h' = h ∧ n' = n := by
 refine aW au7 ap8 ?_
 by_cases c1 : x < y
 ·simp only [E2, Try.f64, Option.getD_some, List.replicate, bK, fgr, hkr, execOp, opd, fF, ofValue, bQ, put, nth, aJ, dP, dV, bor, eX, fD, intOp, ended, dD, dQ, List.cons_append, List.nil_append, List.append_nil, List.length_cons, List.length_nil, Nat.reduceAdd, Nat.reduceSub, ↓reduceIte, Int.reduceNeg, decide_true, and_self, Nat.zero_add, aS, jY (f97 _ _ _), c1, iY]
 ·by_cases c2 : y < x
  ·simp only [E2, Try.f64, Option.getD_some, List.replicate, bK, fgr, hkr, execOp, opd, fF, ofValue, bQ, put, nth, aJ, dP, dV, bor, eX, fD, intOp, ended, dD, dQ, List.cons_append, List.nil_append, List.append_nil, List.length_cons, List.length_nil, Nat.reduceAdd, Nat.reduceSub, ↓reduceIte, Int.reduceNeg, gt_iff_lt, decide_true, decide_false, and_self, Nat.zero_add, aS, jY (f97 _ _ _), c1, c2, iY]
  ·simp only [E2, Try.f64, Option.getD_some, List.replicate, bK, fgr, hkr, execOp, opd, fF, ofValue, bQ, put, nth, aJ, dP, dV, bor, eX, fD, intOp, ended, dD, dQ, List.cons_append, List.nil_append, List.append_nil, List.length_cons, List.length_nil, Nat.reduceAdd, Nat.reduceSub, ↓reduceIte, Int.reduceNeg, gt_iff_lt, decide_true, decide_false, and_self, Nat.zero_add, aS, jY (f97 _ _ _), c1, c2, iY]
theorem f98 (h : Hp) (n : Nat) (a b : List UInt8) : Wp (aQ env (aE env) 98 [.str a, .str b]) h n fun v' h' n' => v' = .int .i64 (Go.Lib.compareBytes a b) ∧ h' = h ∧ n' = n := by
 refine aW au4 ap5 ?_
 simp only [K4, Try.f98, Option.getD_some, List.replicate, bK, fgr, hkr, execOp, opd, fF, ofValue, bQ, put, nth, aJ, dP, dV, ended, dD, dQ, List.cons_append, List.nil_append, List.append_nil, List.length_cons, List.length_nil, Nat.reduceAdd, Nat.reduceSub, and_self, Nat.zero_add, aS, cK, jI]
theorem f65 (h : Hp) (n : Nat) (a b : List UInt8) : Wp (aQ env (aE env) 65 [.str a, .str b]) h n fun v' h' n' => v' = .int .i64 (Go.Lib.compareBytes a b) ∧ h' = h ∧ n' = n := by
 refine aW au6 ap7 ?_
 simp only [K7, Try.f65, Option.getD_some, List.replicate, bK, fgr, hkr, execOp, opd, fF, ofValue, bQ, put, nth, aJ, dP, dV, ended, dD, dQ, List.cons_append, List.nil_append, List.append_nil, List.length_cons, List.length_nil, Nat.reduceAdd, Nat.reduceSub, and_self, Nat.zero_add, aS, jY (f98 _ _ _ _)]
end Go.Am.Ytlgebaofkolkoaa.Ins
set_option linter.unusedSimpArgs false
set_option linter.unusedVariables false
set_option linter.defProp false
set_option maxRecDepth 10000
namespace Go.Am.Ytlgebaofkolkoaa.Ins
open Go Go.Am Go.Proofs
noncomputable def b5 : Code := match rU with
 | .seq _ (.seq _ (.block _ c)) => c
 | _ => .skip
def zE : Oper := { dst := some 59, op := .next (.tmp 58) false, type := 0, pos := "store.go:175", after := #[], guard := none }
def DM : Oper := { dst := some 60, op := .extract (.tmp 59) 0, type := 4, pos := "store.go:175", after := #[{ on := 0, ground := .data }], guard := none }
theorem YM : rU = .seq (.region 14 #[zE, DM] false) (.seq (.cond (.tmp 60) .skip (.exit 4)) (.block 5 b5)) := rfl
theorem PE {it mm ck st : Nat} {es : List Ent} {seen : List Nat} {k x : a9} {h : Hp} {n : Nat} (g1 : h it = some (.gP mm ck (seen ++ [st]) ck)) (g2 : h mm = some (.map es ck)) (g3 : es.find? (fun e => e.2.2.beq st) = some (k, x, st)) :
  Rd (CD (.ptr it 0)) h n ([] ++ [mm] ++ [it]) (.tup [k, x]) := by
 have key : Rd ((eI it).bind fun b => match b with
   | .gP mm _ seen gD => (eI mm).bind fun c => match c with
    | .map es ck => match ck.beq gD with
     | true => (fS "entry" seen.getLast?).bind fun st => (fS "entry" (es.find? fun e => e.2.2.beq st)).bind fun e => M.pure (a9.tup [e.1, e.2.1])
     | false => aY "entry"
    | _ => aY "entry"
   | _ => aY "entry") h n ([] ++ [mm] ++ [it]) (.tup [k, x]) := by
  refine Rd.bind (Rd.get g1) ?_
  refine Rd.bind (Rd.get g2) ?_
  have e1 : ck.beq ck = true := Nat.beq_refl ck
  have e2 : (seen ++ [st]).getLast? = some st := List.getLast?_concat
  simp only [e1, e2, g3, fS, aD]
  exact Rd.pure _
 exact key
theorem aC0 (rnd : Option Nat) (Q : dG) (it mm ck st : Nat) (es : List Ent) (seen : List Nat) (s : List UInt8) (v : Int) (b : Sc) (h : Hp) (n : Nat) (x0 x1 x2 x6 x7 x9 x10 x12 x13 x16 x17 x25 x33 x34 x35 x36 x56 x60 x72 : a9) (g1 : h it = some (.gP mm ck (seen ++ [st]) ck)) (g2 : h mm = some (.map es ck)) (g3 : es.find? (fun e => e.2.2.beq st) = some (.str s, .int .i64 v, st)) (hf : bB h n)
  (hQ : ∀ (y16 y17 y72 : a9) (c : Blk), Q .normal (x0 :: x1 :: x2 :: a9.aA :: a9.aA :: a9.aA :: x6 :: x7 :: a9.aA :: x9 :: x10 :: a9.aA :: x12 :: x13 :: .str (bet b (s, v)).1 :: .int .i64 (bet b (s, v)).2 :: y16 :: y17 :: a9.aA :: a9.aA :: a9.aA :: a9.aA :: a9.aA :: a9.aA :: a9.aA :: x25 :: a9.aA :: a9.aA :: a9.aA :: a9.aA :: a9.aA :: a9.aA :: a9.aA :: x33 :: x34 :: x35 :: x36 :: a9.aA :: a9.aA :: a9.aA :: a9.aA :: a9.aA :: a9.aA :: a9.aA :: a9.aA :: a9.aA :: a9.aA :: a9.aA :: a9.aA :: a9.aA :: a9.aA :: a9.aA :: a9.aA :: a9.aA :: a9.aA :: a9.aA :: x56 :: a9.aA :: .ptr it 0 :: a9.aA :: x60 :: a9.aA :: a9.aA :: a9.aA :: a9.aA :: a9.aA :: a9.aA :: a9.aA :: a9.aA :: a9.aA :: a9.aA :: a9.aA :: y72 :: a9.aA :: a9.aA :: a9.aA :: a9.aA :: a9.aA :: a9.aA :: a9.aA :: a9.aA :: a9.aA :: a9.aA :: a9.aA :: a9.aA :: []) (upd h n (some c)) (n + 1)) :
  Run env 17 rnd Q (.block 5 b5) [] (x0 :: x1 :: x2 :: a9.aA :: a9.aA :: a9.aA :: x6 :: x7 :: a9.aA :: x9 :: x10 :: a9.aA :: x12 :: x13 :: .str b.1 :: .int .i64 b.2 :: x16 :: x17 :: a9.aA :: a9.aA :: a9.aA :: a9.aA :: a9.aA :: a9.aA :: a9.aA :: x25 :: a9.aA :: a9.aA :: a9.aA :: a9.aA :: a9.aA :: a9.aA :: a9.aA :: x33 :: x34 :: x35 :: x36 :: a9.aA :: a9.aA :: a9.aA :: a9.aA :: a9.aA :: a9.aA :: a9.aA :: a9.aA :: a9.aA :: a9.aA :: a9.aA :: a9.aA :: a9.aA :: a9.aA :: a9.aA :: a9.aA :: a9.aA :: a9.aA :: a9.aA :: x56 :: a9.aA :: .ptr it 0 :: a9.aA :: x60 :: a9.aA :: a9.aA :: a9.aA :: a9.aA :: a9.aA :: a9.aA :: a9.aA :: a9.aA :: a9.aA :: a9.aA :: a9.aA :: x72 :: a9.aA :: a9.aA :: a9.aA :: a9.aA :: a9.aA :: a9.aA :: a9.aA :: a9.aA :: a9.aA :: a9.aA :: a9.aA :: a9.aA :: []) h n := by
 simp only [b5, rU, bD, Try.f17, Option.getD_some, bK, fgr, execOp, opd, nth, List.append_eq, List.cons_append, List.nil_append, List.append_nil, Int.reduceNeg, List.getD_cons_zero, List.getD_cons_succ]
 rw [aH (PE g1 g2 g3)]
 simp only [bK, fgr, hkr, execOp, opd, fF, bQ, put, nth, aJ, dP, dV, extract, fS, List.getElem?_cons_succ, List.getElem?_cons_zero, List.nil_append, List.append_nil]
 rw [jY (f64 h n b.2 v)]
 simp only [bK, hkr, execOp, opd, fF, bQ, put, nth, dP, dV, List.nil_append, List.append_nil]
 rw [jY (f65 h n s b.1)]
 simp only [bK, tyr, execOp, opd, zD, bQ, put, nth, und, cel, fS, List.cons_append, List.nil_append, List.append_nil, List.length_cons, List.length_nil, Nat.reduceAdd, Nat.beq, Bool.not_false, Bool.and_true, Bool.true_and, Nat.zero_add, Nat.zero_mul, buildSlice, eS, fill, List.take_succ_cons, List.take_zero, List.drop_succ_cons, List.drop_zero, Nat.ble, Nat.one_mul, List.length_cons, List.length_nil, Nat.zero_mul]
 refine hG ti3 hf (f := fun id => a9.sl id 0 2 (some 2) 1) fun H r o f => ?_
 have eH : H = upd h n (some (.row (.l [.int .i64 (iY b.2 v), .int .i64 (Go.Lib.compareBytes s b.1)]) 3)) := funext fun j => by
  by_cases c : j = n
  ·subst c; rw [aM]; exact r
  ·rw [aK _ _ c]; exact o j c
 simp only [bK, hkr, execOp, opd, fF, bQ, put, nth, dP, dV, List.nil_append, List.append_nil]
 refine dJ (f63 n _ _ 3 H _ r) ?_
 simp only [bK, fgr, execOp, opd, ofValue, bQ, put, nth, aJ, bor, eX, fD, intOp, decide_true]
 subst eH
 have hb : bet b (s, v) = if orI (iY b.2 v) (Go.Lib.compareBytes s b.1) < 0 then (s, v) else b := rfl
 by_cases c : orI (iY b.2 v) (Go.Lib.compareBytes s b.1) < 0
 ·simp only [bK, fgr, execOp, opd, bQ, put, nth, aJ, decide_true, c]
  rw [if_pos c] at hb
  rw [hb] at hQ
  exact hQ _ _ _ _
 ·simp only [bK, decide_false, c]
  rw [if_neg c] at hb
  rw [hb] at hQ
  exact hQ _ _ _ _
end Go.Am.Ytlgebaofkolkoaa.Ins
set_option linter.unusedSimpArgs false
set_option linter.unusedVariables false
set_option linter.defProp false
set_option maxRecDepth 10000
namespace Go.Am.Ytlgebaofkolkoaa.Ins
open Go Go.Am Go.Proofs
theorem Rel.sub {P : Program} {ρ : Ren} {m : Mem} {h h' : Hp} {w : World} (hr : Rel P ρ m h w) (hs : ∀ id b, h' id = some b → h id = some b) : Rel P ρ m h' w :=
 ⟨fun id b hb => hr.dL id b (hs id b hb), fun i j b c r r' hi hj => hr.inj i j b c r r' (hs i b hi) (hs j c hj), hr.mem⟩
theorem JQ {P : Program} {ρ : Ren} {m : Mem} {h : Hp} {w : World} {it mm ck : Nat} {es : List Ent} {seen : List Nat} {x : Value} (hr : Rel P ρ m h w) (hx : R ρ m (.ptr it 0) x)
  (g1 : h it = some (.gP mm ck seen ck)) (g2 : h mm = some (.map es ck)) (hb : ∀ e ∈ es, e.2.2 < ck) (ty : TypeId) :
  ((∀ e ∈ es, e.2.2 ∈ seen) ∧ (Instr.next x false ty).run P w = .ok (.tuple #[.bool false]) w) ∨
  ∃ e ∈ es, e.2.2 ∉ seen ∧ ∃ k v w', (Instr.next x false ty).run P w = .ok (.tuple #[.bool true, k, v]) w' ∧ Rel P ρ m (upd h it (some (.gP mm ck (seen ++ [e.2.2]) ck))) w' ∧ Fr w w' := by
 cases hx with
 | ptr _ _ r hρ =>
 obtain ⟨rb, o, q1, q2, q3, q4⟩ := hr.dL it _ g1
 rw [hρ] at q1
 injection q1 with q1
 subst q1
 cases q3 with
 | gP _ _ _ _ r2 hρ2 =>
 obtain ⟨rb2, o2, p1, p2, p3, p4⟩ := hr.dL mm _ g2
 rw [hρ2] at p1
 injection p1 with p1
 subst p1
 cases p3 with
 | map _ _ arr hl hme =>
 have born : ∀ (i : Nat) (hi : i < es.length) (hi' : i < arr.size), arr[i].born = es[i].2.2 := fun i hi hi' => (hme i es[i] arr[i] (List.getElem?_eq_getElem hi) (Array.getElem?_eq_getElem hi')).born
 have hold : ∀ y ∈ arr.toList, y.born < ck := fun y hy => by
  obtain ⟨i, hi, rfl⟩ := List.mem_iff_getElem.1 hy
  have hi' : i < arr.size := by simpa using hi
  have := born i (by omega) hi'
  rw [Array.getElem_toList, this]
  exact hb _ (List.getElem_mem _)
 rcases run_next_at (P := P) w ty r.b r2.b ck ck seen.toArray arr ck q2 p2 hold (Nat.le_refl _) with ⟨h0, hrun⟩ | ⟨e, he, w1, hw, hrun⟩
 ·refine .inl ⟨fun e he => ?_, hrun⟩
  obtain ⟨i, hi, rfl⟩ := List.mem_iff_getElem.1 he
  have hi' : i < arr.size := by omega
  have h1 : leftOf arr seen.toArray = #[] := Array.eq_empty_of_size_eq_zero h0
  unfold leftOf at h1
  rw [Array.filter_eq_empty_iff] at h1
  have := h1 arr[i] (Array.getElem_mem hi')
  rw [born i hi hi'] at this
  simpa using this
 ·have he' : e ∈ leftOf arr seen.toArray := by simpa using he
  unfold leftOf at he'
  rw [Array.mem_filter] at he'
  obtain ⟨h1, h2⟩ := he'
  obtain ⟨i, hi', rfl⟩ := Array.mem_iff_getElem.1 h1
  have hi : i < es.length := by omega
  refine .inr ⟨es[i], List.getElem_mem hi, ?_, _, _, _, hrun, ?_, ?_⟩
  ·rw [← born i hi hi']
   simpa using h2
  ·have hr1 : Rel P ρ m h w1 := by
    rcases hw with rfl | rfl
    ·exact hr
    ·exact ⟨hr.dL, hr.inj, hr.mem⟩
   refine hr1.upd g1 hρ (b := .gP mm ck (seen ++ [es[i].2.2]) ck) ?_ fun j => rfl
   rw [born i hi hi']
   have : seen.toArray.push es[i].2.2 = (seen ++ [es[i].2.2]).toArray := by simp
   rw [this]
   exact .gP _ _ _ _ _ r2 hρ2
  ·have f1 : Fr w w1 := by
    rcases hw with rfl | rfl
    ·exact .refl _
    ·exact ⟨rfl, rfl, rfl, Nat.le_refl _⟩
   exact f1.trans (World.oP _ _ _)
end Go.Am.Ytlgebaofkolkoaa.Ins
set_option linter.unusedSimpArgs false
set_option linter.unusedVariables false
set_option linter.defProp false
set_option maxRecDepth 10000
namespace Go.Am.Ytlgebaofkolkoaa.Ins
open Go Go.Am Go.Proofs
def dec (e : Ent) : Sc := match e.1 with
 | .str s => match e.2.1 with
  | .int _ v => (s, v)
  | _ => ([], 0)
 | _ => ([], 0)
structure Fit (es : List Ent) (ck : Nat) : Prop where
 e : ∀ x ∈ es, x.1 = .str (dec x).1 ∧ x.2.1 = .int .i64 (dec x).2 ∧ x.2.2 < ck
 d : (es.map fun x => x.2.2).Nodup
theorem y8 : ∀ {es : List Ent} {e : Ent}, e ∈ es → (es.map fun x => x.2.2).Nodup → es.find? (fun x => x.2.2.beq e.2.2) = some e
 | x :: es, e, he, hd => by
  rw [List.find?_cons]
  by_cases c : x.2.2 = e.2.2
  ·rw [c, Nat.beq_refl]
   rcases List.mem_cons.1 he with q | q
   ·rw [q]
   ·rw [List.map_cons, List.nodup_cons] at hd
    exact absurd (List.mem_map.2 ⟨e, q, c.symm⟩) hd.1
  ·rw [show x.2.2.beq e.2.2 = false from jW c]
   rcases List.mem_cons.1 he with q | q
   ·exact absurd (by rw [q]) c
   ·rw [List.map_cons, List.nodup_cons] at hd
    exact y8 q hd.2
theorem MH {α : Type} {x : M α} {h : Hp} {n : Nat} {Q : α → Hp → Nat → Prop} (hw : Wp x (fun id => if id < n then h id else none) n Q) {k : Nat} (hk : ∀ a h' n', Q a h' n' → n' ≤ n + k) (hf : ∀ id, n ≤ id → id < n + k → h id = none) :
  ∃ a t' hR, x.run (at0 h n) = .ok a t' ∧ bS t' ∧ Q a hR t'.next ∧ (∀ id, id < n → t'.heap.get id = hR id) ∧ (∀ id, n ≤ id → id < t'.next → t'.heap.get id = hR id) ∧ ∀ id, t'.next ≤ id → n ≤ id → t'.heap.get id = h id := by
 obtain ⟨a, s', he, hq⟩ := dY.1 hw
 obtain ⟨r, wr, ob, d⟩ := x.loc _ _ _ he.run
 have hn' := hk _ _ _ hq
 have lo : ∀ id, ((fun id => if id < n then h id else none) : Hp) id ≠ none → id < n := fun id q => by
  by_cases c : id < n
  ·exact c
  ·exact absurd (if_neg c) q
 obtain ⟨t', e1, e2, e3, e4, e5, e6, e7, e8⟩ := d.rJ (at0 h n) rfl rfl fun id hid => by
  show h id = if id < n then h id else none
  by_cases c : id < n
  ·rw [if_pos c]
  ·rw [if_neg c]
   have nw : New (at0 (fun id => if id < n then h id else none) n) s' id → h id = none := fun q => by
    have q1 : n ≤ id := q.1
    have q2 := q.2
    exact hf id q1 (by omega)
   rcases hid with q | q | q
   ·rcases d.vD id q with u | u
    ·exact absurd (lo id u) c
    ·exact nw u
   ·rcases d.dL id q with u | u
    ·exact absurd (lo id u) c
    ·exact nw u
   ·exact nw q
 refine ⟨a, t', s'.heap.get, e1, ?_, by rw [e2]; exact hq, fun id hid => ?_, fun id h1 h2 => e7 id (.inr ⟨h1, by rw [← e2]; exact h2⟩), fun id h1 h2 => ?_⟩
 ·obtain ⟨o2, ho2, ho3⟩ := he.obs
  have : ob = o2 := by
   have := d.obs
   rw [ho2] at this
   exact (List.append_cancel_right this).symm
  unfold bS
  rw [e6, this]
  simpa [at0] using ho3
 ·by_cases c : id ∈ wr ∨ New (at0 (fun id => if id < n then h id else none) n) s' id
  ·exact e7 id c
  ·simp only [not_or] at c
   rw [e8 id c.1 c.2, d.rest id c.1 c.2]
   show h id = if id < n then h id else none
   rw [if_pos hid]
 ·refine e8 id (fun q => ?_) (fun q => by have := q.2; omega)
  rcases d.dL id q with u | u
  ·have := lo id u; omega
  ·have := u.2; omega
theorem _root_.Go.Am.iZ.st {P : Program} {ρ : Ren} {m : Mem} {s : St} {w : World} {o : Option Nat} {a : Act} {e : eJ} {tm : List a9} {s1 s2 : St} {e' : Exit} {a' : Act} {w' : World} {ρ' : Ren} {D : List Nat} (h : iZ P ρ m s w o a e tm s1 e' a' w' ρ' D) (hh : s2.heap.get = s1.heap.get) (hn : s2.next = s1.next) : iZ P ρ m s w o a e tm s2 e' a' w' ρ' D :=
 ⟨⟨h.eV.ren, fun id q => (h.eV.new id q).imp (fun u => u) fun u => ⟨u.1, by rw [hn]; exact u.2⟩, h.eV.mem, by rw [hh]; exact h.eV.rel, h.eV.fr, by rw [hn]; exact h.eV.next⟩, h.tmps, h.ex, h.defers, h.tA, h.inRound⟩
theorem DL (n1 : Nat) (h2 : Hp) (ρ : Ren) (m : Mem) (w : World) (a : Act) (o : Option Nat) (n : Nat) (Q : Exit → Act → World → Prop) (bb : Bool) (l : List a9) (x0 x1 x2 x6 x7 x9 x10 x12 x13 x14 x15 x16 x17 x25 x33 x34 x35 x36 x56 x58 x60 x72 : a9) (ht : RL ρ m (x0 :: x1 :: x2 :: a9.aA :: a9.aA :: a9.aA :: x6 :: x7 :: a9.aA :: x9 :: x10 :: a9.aA :: x12 :: x13 :: x14 :: x15 :: x16 :: x17 :: a9.aA :: a9.aA :: a9.aA :: a9.aA :: a9.aA :: a9.aA :: a9.aA :: x25 :: a9.aA :: a9.aA :: a9.aA :: a9.aA :: a9.aA :: a9.aA :: a9.aA :: x33 :: x34 :: x35 :: x36 :: a9.aA :: a9.aA :: a9.aA :: a9.aA :: a9.aA :: a9.aA :: a9.aA :: a9.aA :: a9.aA :: a9.aA :: a9.aA :: a9.aA :: a9.aA :: a9.aA :: a9.aA :: a9.aA :: a9.aA :: a9.aA :: a9.aA :: x56 :: a9.aA :: x58 :: .tup (.bool bb :: l) :: x60 :: a9.aA :: a9.aA :: a9.aA :: a9.aA :: a9.aA :: a9.aA :: a9.aA :: a9.aA :: a9.aA :: a9.aA :: a9.aA :: x72 :: a9.aA :: a9.aA :: a9.aA :: a9.aA :: a9.aA :: a9.aA :: a9.aA :: a9.aA :: a9.aA :: a9.aA :: a9.aA :: a9.aA :: []) a.tmps) (hr : Rel env.P ρ m h2 w)
  (hK : ∀ (a' : Act) (w' : World) (ρ' : Ren), dS env.P ρ m (at0 h2 n1) w ρ' m (at0 h2 n1) w' → RL ρ' m (x0 :: x1 :: x2 :: a9.aA :: a9.aA :: a9.aA :: x6 :: x7 :: a9.aA :: x9 :: x10 :: a9.aA :: x12 :: x13 :: x14 :: x15 :: x16 :: x17 :: a9.aA :: a9.aA :: a9.aA :: a9.aA :: a9.aA :: a9.aA :: a9.aA :: x25 :: a9.aA :: a9.aA :: a9.aA :: a9.aA :: a9.aA :: a9.aA :: a9.aA :: x33 :: x34 :: x35 :: x36 :: a9.aA :: a9.aA :: a9.aA :: a9.aA :: a9.aA :: a9.aA :: a9.aA :: a9.aA :: a9.aA :: a9.aA :: a9.aA :: a9.aA :: a9.aA :: a9.aA :: a9.aA :: a9.aA :: a9.aA :: a9.aA :: a9.aA :: x56 :: a9.aA :: x58 :: a9.aA :: .bool bb :: a9.aA :: a9.aA :: a9.aA :: a9.aA :: a9.aA :: a9.aA :: a9.aA :: a9.aA :: a9.aA :: a9.aA :: a9.aA :: x72 :: a9.aA :: a9.aA :: a9.aA :: a9.aA :: a9.aA :: a9.aA :: a9.aA :: a9.aA :: a9.aA :: a9.aA :: a9.aA :: a9.aA :: []) a'.tmps → a'.defers = a.defers → Q .normal a' w') : wpListIn (Fw o) n env.P #[zE, DM] Q [DM] a w := by
 refine vK lD [DM] (ops := #[zE, DM]) (tm' := (x0 :: x1 :: x2 :: a9.aA :: a9.aA :: a9.aA :: x6 :: x7 :: a9.aA :: x9 :: x10 :: a9.aA :: x12 :: x13 :: x14 :: x15 :: x16 :: x17 :: a9.aA :: a9.aA :: a9.aA :: a9.aA :: a9.aA :: a9.aA :: a9.aA :: x25 :: a9.aA :: a9.aA :: a9.aA :: a9.aA :: a9.aA :: a9.aA :: a9.aA :: x33 :: x34 :: x35 :: x36 :: a9.aA :: a9.aA :: a9.aA :: a9.aA :: a9.aA :: a9.aA :: a9.aA :: a9.aA :: a9.aA :: a9.aA :: a9.aA :: a9.aA :: a9.aA :: a9.aA :: a9.aA :: a9.aA :: a9.aA :: a9.aA :: a9.aA :: x56 :: a9.aA :: x58 :: .tup (.bool bb :: l) :: .bool bb :: a9.aA :: a9.aA :: a9.aA :: a9.aA :: a9.aA :: a9.aA :: a9.aA :: a9.aA :: a9.aA :: a9.aA :: a9.aA :: x72 :: a9.aA :: a9.aA :: a9.aA :: a9.aA :: a9.aA :: a9.aA :: a9.aA :: a9.aA :: a9.aA :: a9.aA :: a9.aA :: a9.aA :: [])) (s := at0 h2 n1) (s' := at0 h2 n1) rfl rfl hr (fun id q => by have := q.1; have := q.2; omega) ht fun a' w' ρ' hp ht' hd => hK a' w' ρ' hp ?_ hd
 have := rZ (E := env) (fn := 17) ht'
 rw [TK] at this
 exact this
theorem JE (rnd : Option Nat) (s : St) (ρ : Ren) (m : Mem) (w : World) (a : Act) (o : Option Nat) (n : Nat) (Q : Exit → Act → World → Prop) (it mm ck : Nat) (es : List Ent) (b : Sc) (x0 x1 x2 x6 x7 x9 x10 x12 x13 x16 x17 x25 x33 x34 x35 x36 x56 x60 x72 : a9) (hr : Rel env.P ρ m s.heap.get w)
  (hw : ∀ id, s.next ≤ id → id < s.next + es.length → ρ id = none) (ht : RL ρ m (x0 :: x1 :: x2 :: a9.aA :: a9.aA :: a9.aA :: x6 :: x7 :: a9.aA :: x9 :: x10 :: a9.aA :: x12 :: x13 :: .str b.1 :: .int .i64 b.2 :: x16 :: x17 :: a9.aA :: a9.aA :: a9.aA :: a9.aA :: a9.aA :: a9.aA :: a9.aA :: x25 :: a9.aA :: a9.aA :: a9.aA :: a9.aA :: a9.aA :: a9.aA :: a9.aA :: x33 :: x34 :: x35 :: x36 :: a9.aA :: a9.aA :: a9.aA :: a9.aA :: a9.aA :: a9.aA :: a9.aA :: a9.aA :: a9.aA :: a9.aA :: a9.aA :: a9.aA :: a9.aA :: a9.aA :: a9.aA :: a9.aA :: a9.aA :: a9.aA :: a9.aA :: x56 :: a9.aA :: .ptr it 0 :: a9.aA :: x60 :: a9.aA :: a9.aA :: a9.aA :: a9.aA :: a9.aA :: a9.aA :: a9.aA :: a9.aA :: a9.aA :: a9.aA :: a9.aA :: x72 :: a9.aA :: a9.aA :: a9.aA :: a9.aA :: a9.aA :: a9.aA :: a9.aA :: a9.aA :: a9.aA :: a9.aA :: a9.aA :: a9.aA :: []) a.tmps) (hn : RN ρ rnd o) (g1 : s.heap.get it = some (.gP mm ck [] ck)) (g2 : s.heap.get mm = some (.map es ck)) (fit : Fit es ck) (itn : it < s.next) (mmn : mm < s.next)
  (hQ : ∀ (a' : Act) (w' : World) (ρ' : Ren) (D : List Nat) (y16 y17 y60 y72 : a9) (h' : Hp), iZ env.P ρ m s w o a .normal (x0 :: x1 :: x2 :: a9.aA :: a9.aA :: a9.aA :: x6 :: x7 :: a9.aA :: x9 :: x10 :: a9.aA :: x12 :: x13 :: .str ((es.map dec).foldl bet b).1 :: .int .i64 ((es.map dec).foldl bet b).2 :: y16 :: y17 :: a9.aA :: a9.aA :: a9.aA :: a9.aA :: a9.aA :: a9.aA :: a9.aA :: x25 :: a9.aA :: a9.aA :: a9.aA :: a9.aA :: a9.aA :: a9.aA :: a9.aA :: x33 :: x34 :: x35 :: x36 :: a9.aA :: a9.aA :: a9.aA :: a9.aA :: a9.aA :: a9.aA :: a9.aA :: a9.aA :: a9.aA :: a9.aA :: a9.aA :: a9.aA :: a9.aA :: a9.aA :: a9.aA :: a9.aA :: a9.aA :: a9.aA :: a9.aA :: x56 :: a9.aA :: .ptr it 0 :: a9.aA :: y60 :: a9.aA :: a9.aA :: a9.aA :: a9.aA :: a9.aA :: a9.aA :: a9.aA :: a9.aA :: a9.aA :: a9.aA :: a9.aA :: y72 :: a9.aA :: a9.aA :: a9.aA :: a9.aA :: a9.aA :: a9.aA :: a9.aA :: a9.aA :: a9.aA :: a9.aA :: a9.aA :: a9.aA :: []) (at0 h' (s.next + es.length)) .normal a' w' ρ' D →
   (∀ id, id ≠ it → (id < s.next ∨ s.next + es.length ≤ id) → h' id = s.heap.get id) → Q .normal a' w') :
  (Code.block 4 (.loop rU)).wpIn (Fw o) n env.P Q a w := by
 have zJ : ∀ id, s.next ≤ id → id < s.next + es.length → s.heap.get id = none := fun id h1 h2 => by
  cases e : s.heap.get id with
  | none => rfl
  | some c =>
   obtain ⟨rb, ob, q1, _⟩ := hr.dL id c e
   rw [hw id h1 h2] at q1
   cases q1
 have itw : it < s.next ∨ s.next + es.length ≤ it := .inl itn
 have mmw : mm < s.next ∨ s.next + es.length ≤ mm := .inl mmn
 have mi : mm ≠ it := fun e => by rw [e, g1] at g2; cases g2
 let I : Nat → Act → World → Prop := fun j a1 w1 => ∃ (done rest : List Ent) (h1 : Hp) (ρ1 : Ren) (D1 : List Nat) (y16 y17 y60 y72 : a9), es.Perm (done ++ rest) ∧ j = rest.length + 1 ∧
  iZ env.P ρ m s w o a .normal (x0 :: x1 :: x2 :: a9.aA :: a9.aA :: a9.aA :: x6 :: x7 :: a9.aA :: x9 :: x10 :: a9.aA :: x12 :: x13 :: .str ((done.map dec).foldl bet b).1 :: .int .i64 ((done.map dec).foldl bet b).2 :: y16 :: y17 :: a9.aA :: a9.aA :: a9.aA :: a9.aA :: a9.aA :: a9.aA :: a9.aA :: x25 :: a9.aA :: a9.aA :: a9.aA :: a9.aA :: a9.aA :: a9.aA :: a9.aA :: x33 :: x34 :: x35 :: x36 :: a9.aA :: a9.aA :: a9.aA :: a9.aA :: a9.aA :: a9.aA :: a9.aA :: a9.aA :: a9.aA :: a9.aA :: a9.aA :: a9.aA :: a9.aA :: a9.aA :: a9.aA :: a9.aA :: a9.aA :: a9.aA :: a9.aA :: x56 :: a9.aA :: .ptr it 0 :: a9.aA :: y60 :: a9.aA :: a9.aA :: a9.aA :: a9.aA :: a9.aA :: a9.aA :: a9.aA :: a9.aA :: a9.aA :: a9.aA :: a9.aA :: y72 :: a9.aA :: a9.aA :: a9.aA :: a9.aA :: a9.aA :: a9.aA :: a9.aA :: a9.aA :: a9.aA :: a9.aA :: a9.aA :: a9.aA :: []) (at0 h1 (s.next + done.length)) .normal a1 w1 ρ1 D1 ∧
  h1 it = some (.gP mm ck (done.map fun x => x.2.2) ck) ∧ (∀ id, id ≠ it → (id < s.next ∨ s.next + es.length ≤ id) → h1 id = s.heap.get id) ∧ ∀ id, s.next + done.length ≤ id → id < s.next + es.length → h1 id = none
 refine wpIn_block (qX I (fun a1 w1 hI => ?_) (fun j a1 w1 hI => ?_) (es.length + 1) ?_)
 ·obtain ⟨done, rest, h1, ρ1, D1, y16, y17, y60, y72, _, q, _⟩ := hI
  omega
 ·obtain ⟨done, rest, h1, ρ1, D1, y16, y17, y60, y72, hp, hj, he, k1, k2, k3⟩ := hI
  have hlen : es.length = done.length + rest.length := by rw [hp.length_eq, List.length_append]
  have k2m : h1 mm = some (.map es ck) := by rw [k2 mm mi mmw]; exact g2
  rw [YM]
  have hx : R ρ1 (m.with D1) (.ptr it 0) (a1.eval (.tmp 58)) := bY he.tmps (.tmp 58)
  have hns := JQ (P := env.P) he.eV.rel hx k1 k2m (fun e q => (fit.e e q).2.2) 0
  refine wpIn_seq (wpIn_region_list ?_)
  show (if Region.wanted zE (yielded #[zE, DM] a1.tmps) then zE.wpIn _ _ _ a1 w1 _ _ else _)
  rw [if_pos (by rfl)]
  refine ⟨fun _ _ => trivial, ?_⟩
  have hsem : zE.semAt (Fw o).round a1.eval = Go.execOp a1.eval zE := Oper.semAt_eq _ _ _ (fun c hc => by cases hc)
  rw [hsem]
  have hex : ∀ x w2, (Instr.next (a1.eval (.tmp 58)) false 0).run env.P w1 = .ok x w2 → (Go.execOp a1.eval zE).run env.P w1 = .ok (.value x) w2 := fun x w2 e => by
   simp only [Go.execOp, zE, Sem.run_bind, e, Result.andThen_ok, Sem.run_pure]
  have nd : ((done ++ rest).map fun x => x.2.2).Nodup := (hp.map _).nodup_iff.1 fit.d
  rw [List.map_append, List.nodup_append] at nd
  have ht1 := he.tmps
  rcases hns with ⟨hall, hrun⟩ | ⟨e, hes, hnew, k, v, w2, hrun, hr2, hfr⟩
  ·rw [hex _ _ hrun]
   show wpListIn _ _ _ _ _ [DM] (a1.put (some 59) (.tuple #[.bool false])) w1
   have rest0 : rest = [] := by
    cases rest with
    | nil => rfl
    | cons e rest =>
     have h1 := hall e (hp.mem_iff.2 (by simp))
     exact absurd rfl (nd.2.2 _ h1 e.2.2 (by simp))
   subst rest0
   rw [List.append_nil] at hp
   have hl : done.length = es.length := hp.length_eq.symm
   have hv : R ρ1 (m.with D1) (.tup (.bool false :: [])) (.tuple #[.bool false]) := .tup _ _ rfl fun i v x hv hx => by
    rcases i with _ | i
    ·simp at hv hx
     subst hv; subst hx
     exact .bool _
    ·simp at hv
   have ht2 := qE ht1 (some 59) hv
   refine DL (s.next + done.length) h1 ρ1 (m.with D1) w1 _ o n _ false [] _ _ _ _ _ _ _ _ _ _ _ _ _ _ _ _ _ _ _ _ _ _ ht2 he.eV.rel fun a3 w3 ρ3 hp3 ht3 hd3 => ?_
   have hev : a3.eval (.tmp 60) = .bool false := by
    have := bY ht3 (.tmp 60)
    exact R.iJ this
   refine wpIn_seq (wpIn_cond_false hev (wpIn_exit ?_))
   show Exit.inBlock 4 Q (.exit 4) a3 w3
   simp only [Exit.inBlock, if_pos]
   have hfin : iZ env.P ρ1 (m.with D1) (at0 h1 (s.next + done.length)) w1 o a1 .normal _ (at0 h1 (s.next + done.length)) .normal a3 w3 ρ3 [] := ⟨by rw [Mem.dT]; exact hp3, by rw [Mem.dT]; exact ht3, .normal, by rw [hd3, Act.lP]; rfl, .nil _, fun _ => rfl⟩
   have hA := he.trans hfin
   rw [hl, ← KS (hp.map dec) b] at hA
   exact hQ a3 w3 ρ3 _ y16 y17 _ y72 h1 hA k2
  ·rw [hex _ _ hrun]
   show wpListIn _ _ _ _ _ [DM] (a1.put (some 59) (.tuple #[.bool true, k, v])) w2
   have her : e ∈ rest := by
    rcases List.mem_append.1 (hp.mem_iff.1 hes) with q | q
    ·exact absurd (List.mem_map.2 ⟨e, q, rfl⟩) hnew
    ·exact q
   obtain ⟨r1, r2, rfl⟩ := List.append_of_mem her
   have hp' : es.Perm ((done ++ [e]) ++ (r1 ++ r2)) := hp.trans (by
    rw [List.append_assoc]
    exact List.Perm.append_left _ List.perm_middle)
   have hlen' : es.length = done.length + (r1.length + 1 + r2.length) := by rw [hlen, List.length_append, List.length_cons]; omega
   have hv : R ρ1 (m.with D1) (.tup (.bool true :: [.aA, .aA])) (.tuple #[.bool true, k, v]) := .tup _ _ rfl fun i v x hv hx => by
    rcases i with _ | _ | _ | i
    ·simp at hv hx
     subst hv; subst hx
     exact .bool _
    ·simp at hv
     subst hv
     exact .aA _
    ·simp at hv
     subst hv
     exact .aA _
    ·simp at hv
   have ht2 := qE ht1 (some 59) hv
   replace hr2 : Rel env.P ρ1 (m.with D1) (upd h1 it (some (.gP mm ck ((done.map fun x => x.2.2) ++ [e.2.2]) ck))) w2 := hr2
   generalize hh2 : upd h1 it (some (.gP mm ck ((done.map fun x => x.2.2) ++ [e.2.2]) ck)) = h2 at hr2
   have k1' : h2 it = some (.gP mm ck ((done.map fun x => x.2.2) ++ [e.2.2]) ck) := by rw [← hh2, aM]
   have o2 : ∀ j, j ≠ it → h2 j = h1 j := fun j hj => by rw [← hh2, aK _ _ hj]
   have fresh1 : ∀ id, s.next + done.length ≤ id → id < s.next + es.length → ρ1 id = none := fun id q1 q2 => by
    cases e1 : ρ1 id with
    | none => rfl
    | some rb =>
     rcases he.eV.new id (by rw [e1]; simp) with q | q
     ·exact absurd (hw id (by omega) q2) q
     ·have := q.2
      have : id < s.next + done.length := this
      omega
   refine DL (s.next + done.length) h2 ρ1 (m.with D1) w2 _ o n _ true _ _ _ _ _ _ _ _ _ _ _ _ _ _ _ _ _ _ _ _ _ _ _ ht2 hr2 fun a3 w3 ρ3 hp3 ht3 hd3 => ?_
   have hev : a3.eval (.tmp 60) = .bool true := R.iJ (bY ht3 (.tmp 60))
   refine wpIn_seq (wpIn_cond_true hev (wpIn_skip ?_))
   show (Code.block 5 b5).wpIn _ _ _ _ a3 w3
   have fite := fit.e e hes
   have hfe := y8 hes fit.d
   have hit := aC0 rnd (fun ee tm' h' n' => ee = .normal ∧ ∃ (y16 y17 y72 : a9) (c : Blk), tm' = (x0 :: x1 :: x2 :: a9.aA :: a9.aA :: a9.aA :: x6 :: x7 :: a9.aA :: x9 :: x10 :: a9.aA :: x12 :: x13 :: .str (bet ((done.map dec).foldl bet b) (dec e)).1 :: .int .i64 (bet ((done.map dec).foldl bet b) (dec e)).2 :: y16 :: y17 :: a9.aA :: a9.aA :: a9.aA :: a9.aA :: a9.aA :: a9.aA :: a9.aA :: x25 :: a9.aA :: a9.aA :: a9.aA :: a9.aA :: a9.aA :: a9.aA :: a9.aA :: x33 :: x34 :: x35 :: x36 :: a9.aA :: a9.aA :: a9.aA :: a9.aA :: a9.aA :: a9.aA :: a9.aA :: a9.aA :: a9.aA :: a9.aA :: a9.aA :: a9.aA :: a9.aA :: a9.aA :: a9.aA :: a9.aA :: a9.aA :: a9.aA :: a9.aA :: x56 :: a9.aA :: .ptr it 0 :: a9.aA :: .bool true :: a9.aA :: a9.aA :: a9.aA :: a9.aA :: a9.aA :: a9.aA :: a9.aA :: a9.aA :: a9.aA :: a9.aA :: a9.aA :: y72 :: a9.aA :: a9.aA :: a9.aA :: a9.aA :: a9.aA :: a9.aA :: a9.aA :: a9.aA :: a9.aA :: a9.aA :: a9.aA :: a9.aA :: []) ∧ h' = upd (fun id => if id < s.next + done.length then h2 id else none) (s.next + done.length) (some c) ∧ n' = s.next + done.length + 1)
    it mm ck e.2.2 es (done.map fun x => x.2.2) (dec e).1 (dec e).2 ((done.map dec).foldl bet b) (fun id => if id < s.next + done.length then h2 id else none) (s.next + done.length) x0 x1 x2 x6 x7 x9 x10 x12 x13 y16 y17 x25 x33 x34 x35 x36 x56 (.bool true) y72
    (by rw [if_pos (by omega)]; exact k1') (by rw [if_pos (by omega), o2 mm mi]; exact k2m) (by rw [hfe, ← fite.1, ← fite.2.1]) (fun j hj => if_neg (by omega)) (fun y16 y17 y72 c => ⟨rfl, y16, y17, y72, c, rfl, rfl, rfl⟩)
   obtain ⟨⟨ee, tm4⟩, t4, hR, hrun4, ho4, ⟨he4, z16, z17, z72, c, htm4, hhR, hn4⟩, l1, l2, l3⟩ := MH (h := h2) hit (k := 1) (fun a' h' n' q => by obtain ⟨_, _, _, _, _, _, _, q⟩ := q; omega) (fun id q1 q2 => by rw [o2 id (by omega)]; exact k3 id q1 (by omega))
   simp only at he4 htm4
   subst he4; subst htm4
   have new4 : ∀ id, New (at0 h2 (s.next + done.length)) t4 id → s.next + done.length ≤ id ∧ id < s.next + es.length := fun id q => by
    have q1 : s.next + done.length ≤ id := q.1
    have q2 := q.2
    omega
   refine lD 17 rnd (.block 5 b5) _ _ _ (at0 h2 (s.next + done.length)) t4 hrun4 ho4 ρ3 (m.with D1) w3 a3 o n _ hp3.rel (fun id q => ?_) ht3 (hn.mono fun id r q => hp3.ren id r (he.eV.ren id r q)) fun e5 a5 w5 ρ5 D5 he5 => ?_
   ·obtain ⟨q1, q2⟩ := new4 id q
    cases e1 : ρ3 id with
    | none => rfl
    | some rb =>
     rcases hp3.new id (by rw [e1]; simp) with q3 | q3
     ·exact absurd (fresh1 id q1 q2) q3
     ·have h1 := q3.1
      have h2 := q3.2
      have : id < s.next + done.length := h2
      omega
   ·have hex5 := he5.ex
    cases hex5
    show I j a5 w5
    have hpa : dS env.P ρ1 (m.with D1) (at0 h1 (s.next + done.length)) w1 ρ1 (m.with D1) (at0 h2 (s.next + done.length)) w2 := ⟨fun _ _ q => q, fun _ q => .inl q, fun _ _ q => q, hr2, hfr, Nat.le_refl _⟩
    have hA0 : iZ env.P ρ1 (m.with D1) (at0 h1 (s.next + done.length)) w1 o a1 .normal _ (at0 h2 (s.next + done.length)) .normal a3 w3 ρ3 [] := ⟨by rw [Mem.dT]; exact hpa.trans hp3, by rw [Mem.dT]; exact ht3, .normal, by rw [hd3, Act.lP]; rfl, .nil _, fun _ => rfl⟩
    have hA1 := he.trans hA0
    have hA2 := hA1.trans he5
    have hl5 : (done ++ [e]).length = done.length + 1 := by simp
    have hfo : ((done ++ [e]).map dec).foldl bet b = bet ((done.map dec).foldl bet b) (dec e) := by simp
    have hRid : ∀ id, id < s.next + done.length → t4.heap.get id = h2 id := fun id q => by
     rw [l1 id q, hhR, aK _ _ (by omega), if_pos q]
    refine ⟨done ++ [e], r1 ++ r2, t4.heap.get, ρ5, D5 ++ ([] ++ D1), z16, z17, .bool true, z72, hp', ?_, ?_, ?_, fun id q1 q2 => ?_, fun id q1 q2 => ?_⟩
    ·rw [List.length_append] at hj ⊢
     rw [List.length_cons] at hj
     omega
    ·rw [hfo, hl5]
     exact hA2.st rfl (by rw [hn4]; rfl)
    ·rw [hRid it (by omega), k1', List.map_append]; rfl
    ·by_cases q : id < s.next + done.length
     ·rw [hRid id q, o2 id q1, k2 id q1 q2]
     ·rw [l3 id (by omega) (by omega), o2 id q1, k2 id q1 q2]
    ·rw [hl5] at q1
     rw [l3 id (by omega) (by omega), o2 id (by omega)]
     exact k3 id (by omega) q2
 ·refine ⟨[], es, s.heap.get, ρ, [], x16, x17, x60, x72, by simp, rfl, ⟨?_, ?_, .normal, rfl, .nil m, fun _ => rfl⟩, g1, fun id _ _ => rfl, fun id h1 h2 => zJ id h1 h2⟩
  ·rw [Mem.dT]
   exact .same hr (fun _ => rfl) rfl
  ·rw [Mem.dT]
   exact ht
end Go.Am.Ytlgebaofkolkoaa.Ins
set_option linter.unusedSimpArgs false
set_option linter.unusedVariables false
set_option linter.defProp false
set_option maxRecDepth 10000
namespace Go.Am.Ytlgebaofkolkoaa.Ins
open Go Go.Am Go.Proofs
def DR : Nat → M Unit
 | 0 => M.pure ()
 | k + 1 => (pB (.mC [] 0)).bind fun id => (zH id).bind fun _ => DR k
def FV : List Bool := [true, true, true, false, false, false, true, true, false, true, true, false, true, true, true, true, false, false, false, false, false, false, false, false, false, true, false, false, false, false, false, false, false, true, true, true, true, false, false, false, false, false, false, false, false, false, false, false, false, false, false, false, false, false, false, false, true, false, true, false, false, false, false, false, false, false, false, false, false, false, false, false, false, false, false, false, false, false, false, false, false, false, false, false, false]
def CL (es : List Ent) (b : Sc) : Sc := (es.map dec).foldl bet b
def II (tm : List a9) (r : Sc) : List a9 := aJ FV (Go.Am.put (Go.Am.put tm 14 (.str r.1)) 15 (.int .i64 r.2))
open Classical in
noncomputable def qD (tm : List a9) : M (eJ × List a9) := match tm.length.beq 85 with
 | false => aY "Rich"
 | true => match (tm[58]? : Option a9) with
  | some (.ptr it 0) => match (tm[14]? : Option a9) with
   | some (.str s) => match (tm[15]? : Option a9) with
    | some (.int .i64 v) => (eI it).bind fun x => match x with
     | .gP mm since seen gD => (eI mm).bind fun y => match y with
      | .map es ck => (pB (.mC [] 0)).bind fun id => (zH id).bind fun _ => if Fit es ck ∧ seen = [] ∧ since = ck ∧ gD = ck ∧ it < id ∧ mm < id then (DR es.length).bind fun _ => (zH it).bind fun _ => M.pure (.normal, II tm (CL es (s, v))) else aY "Rich"
      | _ => aY "Rich"
     | _ => aY "Rich"
    | _ => aY "Rich"
   | _ => aY "Rich"
  | _ => aY "Rich"
theorem DQ : ∀ (k : Nat) {s s' : St} {u : Unit}, (DR k).run s = .ok u s' → s'.next = s.next + k ∧ (∀ id, id < s.next → s'.heap.get id = s.heap.get id) ∧ (∀ id, s.next ≤ id → id < s.next + k → s'.heap.get id = none) ∧ ∀ id, s.next + k ≤ id → s'.heap.get id = s.heap.get id
 | 0, s, s', u, h => by
  obtain ⟨_, rfl⟩ := aC h
  exact ⟨rfl, fun _ _ => rfl, fun id h1 h2 => by omega, fun _ _ => rfl⟩
 | k + 1, s, s', u, h => by
  obtain ⟨id, s1, h1, h2⟩ := M.aF h
  obtain ⟨rfl, n1, g1⟩ := uJ h1
  obtain ⟨_, s2, h3, h4⟩ := M.aF h2
  obtain ⟨_, n2, g2⟩ := tD h3
  obtain ⟨a, b, c, d⟩ := DQ k h4
  have e : ∀ j, s2.heap.get j = if j = s.next then none else s.heap.get j := fun j => by
   rw [g2 j]
   by_cases q : j = s.next
   ·rw [if_pos q, if_pos q]
   ·rw [if_neg q, if_neg q, g1 j, if_neg q]
  refine ⟨by omega, fun id hid => ?_, fun id h5 h6 => ?_, fun id hid => ?_⟩
  ·rw [b id (by omega), e, if_neg (by omega)]
  ·by_cases q : id = s.next
   ·rw [b id (by omega), e, if_pos q]
   ·exact c id (by omega) (by omega)
  ·rw [d id (by omega), e, if_neg (by omega)]
def JL : List a9 → List a9 → Prop
 | [], [] => True
 | a :: l, b :: m => (a = .aA ∨ a = b) ∧ JL l m
 | _, _ => False
theorem JL.rl : ∀ {l l' : List a9} {ρ : Ren} {m : Mem} {c : List Value}, JL l' l → RL ρ m l c.toArray → RL ρ m l' c.toArray
 | [], [], _, _, _, _, h => h
 | b :: l, a :: l', ρ, m, c, hj, h => by
  obtain ⟨hl, hat⟩ := h
  cases c with
  | nil => simp at hl
  | cons y c =>
   have ih := JL.rl (l := l) (l' := l') (ρ := ρ) (m := m) (c := c) hj.2 ⟨by simpa using hl, fun i v x hv hx => hat (i + 1) v x (by simpa using hv) (by simpa using hx)⟩
   refine ⟨by simpa using ih.len, fun i v x hv hx => ?_⟩
   cases i with
   | zero =>
    simp at hv hx
    subst hv; subst hx
    rcases hj.1 with q | q
    ·rw [q]; exact .aA _
    ·exact hat 0 a y (by rw [q]; rfl) rfl
   | succ i => exact ih.at_ i v x (by simpa using hv) (by simpa using hx)
theorem JL.rl' {l l' : List a9} {ρ : Ren} {m : Mem} {c : Array Value} (h : JL l' l) (r : RL ρ m l c) : RL ρ m l' c := by
 have : c = c.toList.toArray := by simp
 rw [this] at r ⊢
 exact h.rl r
theorem JL.nil : JL [] [] := trivial
theorem JL.cons {a b : a9} {l m : List a9} (h : a = .aA ∨ a = b) (k : JL l m) : JL (a :: l) (b :: m) := ⟨h, k⟩
theorem aW9 {tm : List a9} (h : tm.length = 85) : ∃ g : Nat → a9, tm = [g 0, g 1, g 2, g 3, g 4, g 5, g 6, g 7, g 8, g 9, g 10, g 11, g 12, g 13, g 14, g 15, g 16, g 17, g 18, g 19, g 20, g 21, g 22, g 23, g 24, g 25, g 26, g 27, g 28, g 29, g 30, g 31, g 32, g 33, g 34, g 35, g 36, g 37, g 38, g 39, g 40, g 41, g 42, g 43, g 44, g 45, g 46, g 47, g 48, g 49, g 50, g 51, g 52, g 53, g 54, g 55, g 56, g 57, g 58, g 59, g 60, g 61, g 62, g 63, g 64, g 65, g 66, g 67, g 68, g 69, g 70, g 71, g 72, g 73, g 74, g 75, g 76, g 77, g 78, g 79, g 80, g 81, g 82, g 83, g 84] := by
 refine ⟨fun i => tm.getD i undef, ?_⟩
 have : tm = (List.range 85).map fun i => tm.getD i undef := by
  refine List.ext_getElem (by simp [h]) fun i h1 h2 => ?_
  simp [List.getD_eq_getElem?_getD, List.getElem?_eq_getElem h1]
 exact this
theorem MN (rnd : Option Nat) : sH env.P rnd (.block 4 (.loop rU)) qD := by
 intro tm e tm' s s' h ho ρ m w a o n Q hr hf ht hn hQ
 unfold qD at h
 split at h
 ·exact (aB h).elim
 rename_i hl85
 split at h
 case h_2 => exact (aB h).elim
 rename_i it h58
 split at h
 case h_2 => exact (aB h).elim
 rename_i b14 h14
 split at h
 case h_2 => exact (aB h).elim
 rename_i b15 h15
 obtain ⟨x, s1, h1, h2⟩ := M.aF h
 obtain ⟨hg1, e1⟩ := cV h1
 split at h2
 case h_2 => exact (aB h2).elim
 rename_i mm since seen gD
 obtain ⟨y, s2, h3, h4⟩ := M.aF h2
 obtain ⟨hg2, e2⟩ := cV h3
 split at h4
 case h_2 => exact (aB h4).elim
 rename_i es ck
 obtain ⟨id, s3, h5, h6⟩ := M.aF h4
 obtain ⟨rfl, n3, k3⟩ := uJ h5
 obtain ⟨_, s4, h7, h8⟩ := M.aF h6
 obtain ⟨_, n4, k4⟩ := tD h7
 split at h8
 case isFalse => exact (aB h8).elim
 rename_i hc
 obtain ⟨fit, rfl, rfl, rfl, itn, mmn⟩ := hc
 obtain ⟨_, s5, h9, h10⟩ := M.aF h8
 obtain ⟨n5, q5, r5, t5⟩ := DQ _ h9
 obtain ⟨_, s6, h11, h12⟩ := M.aF h10
 obtain ⟨_, n6, k6⟩ := tD h11
 obtain ⟨he, rfl⟩ := aC h12
 injection he with u1 u2
 subst u1; subst u2
 rw [e1.heap] at hg2
 have nn : s2.next = s.next := by rw [e2.next, e1.next]
 rw [nn] at itn mmn
 obtain ⟨g, rfl⟩ := aW9 (Nat.eq_of_beq_eq_true hl85)
 have p58 : g 58 = .ptr it 0 := Option.some.inj h58
 have p14 : g 14 = .str b14 := Option.some.inj h14
 have p15 : g 15 = .int .i64 b15 := Option.some.inj h15
 have hh2 : s2.heap.get = s.heap.get := by funext j; rw [e2.heap, e1.heap]
 have h4g : ∀ j, s4.heap.get j = if j = s.next then none else s.heap.get j := fun j => by
  rw [k4 j, nn]
  by_cases q : j = s.next
  ·rw [if_pos q, if_pos q]
  ·rw [if_neg q, if_neg q, k3 j, nn, if_neg q, hh2]
 have n4' : s4.next = s.next + 1 := by omega
 have ns' : s'.next = s.next + 1 + es.length := by omega
 have hs' : ∀ id c, s'.heap.get id = some c → id ≠ it ∧ (id < s.next ∨ s.next + es.length ≤ id) ∧ s.heap.get id = some c := fun id c hc => by
  rw [k6 id] at hc
  by_cases q : id = it
  ·rw [if_pos q] at hc; cases hc
  ·rw [if_neg q] at hc
   refine ⟨q, ?_⟩
   by_cases q1 : id < s4.next
   ·rw [q5 id q1, h4g] at hc
    by_cases q2 : id = s.next
    ·rw [if_pos q2] at hc; cases hc
    ·rw [if_neg q2] at hc
     exact ⟨.inl (by omega), hc⟩
   ·by_cases q3 : id < s4.next + es.length
    ·rw [r5 id (by omega) q3] at hc; cases hc
    ·rw [t5 id (by omega), h4g, if_neg (by omega)] at hc
     exact ⟨.inr (by omega), hc⟩
 refine JE rnd s ρ m w a o n Q it mm _ es (b14, b15) (g 0) (g 1) (g 2) (g 6) (g 7) (g 9) (g 10) (g 12) (g 13) (g 16) (g 17) (g 25) (g 33) (g 34) (g 35) (g 36) (g 56) (g 60) (g 72) hr (fun id q1 q2 => hf id ⟨q1, by omega⟩) (JL.rl' ?_ ht) hn hg1 hg2 fit itn mmn ?_
 ·repeat' first | exact JL.nil | refine JL.cons (.inl rfl) ?_ | refine JL.cons (.inr rfl) ?_ | refine JL.cons (.inr p14.symm) ?_ | refine JL.cons (.inr p15.symm) ?_ | refine JL.cons (.inr p58.symm) ?_
 ·intro a' w' ρ' D y16 y17 y60 y72 h' hA hk
  refine hQ .normal a' w' ρ' D ⟨⟨hA.eV.ren, fun id q => (hA.eV.new id q).imp (fun u => u) fun u => ⟨u.1, ?_⟩, hA.eV.mem, Rel.sub hA.eV.rel fun id c hc => ?_, hA.eV.fr, by omega⟩, JL.rl' ?_ hA.tmps, .normal, hA.defers, hA.tA, hA.inRound⟩
  ·have : id < s.next + es.length := u.2
   omega
  ·obtain ⟨q1, q2, q3⟩ := hs' id c hc
   show h' id = some c
   rw [hk id q1 q2]; exact q3
  ·unfold CL
   simp only [II, FV, aJ, Go.Am.put]
   repeat' first | exact JL.nil | refine JL.cons (.inl rfl) ?_ | refine JL.cons (.inr rfl) ?_ | refine JL.cons (.inr p58) ?_
noncomputable def WV : pX Try.prog := ⟨17, 4, .block 4 (.loop rU), qD, MN⟩
end Go.Am.Ytlgebaofkolkoaa.Ins
set_option linter.unusedSimpArgs false
set_option linter.unusedVariables false
set_option linter.defProp false
set_option maxRecDepth 10000
namespace Go.Am.Ytlgebaofkolkoaa.Ins
open Go Go.Am Go.Proofs
theorem u95 : und env 95 = M.pure (.slice 128) := by simp only [und, oQ, aD]
theorem qR : sizeOf env 128 = M.pure 1 := by simp only [sizeOf, iO, aD]
theorem RH {h : Hp} {n id len C xid : Nat} {cells : List a9} {xc : bI} {e' : TypeId} (hh : h id = some (.row (.l cells) 128)) (hC : cells.length = C) (hl : len ≤ C) (hr : 2 * (len + 1) * 8 ≤ 281474976710656) (hr2 : len + 1 ≤ 281474976710656)
  (hx : h xid = some (.row xc e')) (hxc : 0 < xc.size) (hv : bC (xc.at 0) = true) :
  Wp (eY env [95, 95] (.sl id 0 len (some C) 1) (.sl xid 0 1 (some 1) 1)) h n fun v' h' n' =>
   (len + 1 ≤ C ∧ v' = .sl id 0 (len + 1) (some C) 1 ∧ n' = n ∧ h' = upd h id (some (.row (.l (bV cells len [xc.at 0])) 128))) ∨
   (C < len + 1 ∧ v' = .sl n 0 (len + 1) none 1 ∧ n' = n + 1 ∧ h' = upd h n (some (.row (.l (cells.take len ++ [xc.at 0])) 128))) := by
 have hx1 : Rds h 1 (.sl xid 0 1 (some 1) 1) 1 [xc.at 0] := .sl xid 0 1 (some 1) xc e' _ hx rfl (by simp; omega) (fun j hj => by
  have : j = 0 := by simpa using hj
  subst this; rfl)
 have hs : Rds h 1 (.sl id 0 len (some C) 1) len (cells.take len) := .sl id 0 len (some C) (.l cells) 128 _ hh (by rw [List.length_take]; omega) (by rw [List.length_take]; show 0 + _ ≤ cells.length; omega) (fun j hj => by
  rw [List.length_take] at hj
  rw [Nat.zero_add, bI.vX (by omega), List.getElem_take])
 simp only [eY, u95, aD, rW, append, iO, lenOf, fX, show (Nat.beq 1 0) = false from rfl]
 refine eK hx1.cells ?_
 simp only [cB, eU, hh, Option.some.injEq, exists_eq_left', eG, fX]
 by_cases hf : len + 1 ≤ C
 ·rw [cQ hf]
  have hb : (len + 1).ble cells.length = true := cQ (by omega)
  simp only [dK, Nat.zero_add, Nat.mul_one, bind_assoc, eU, hh, Option.some.injEq, exists_eq_left', eG, eP, bI.size, List.length_singleton, hb, List.all_cons, List.all_nil, hv, Bool.and_true, nJ, true_and, aS]
  rw [mS _ _ _ (by simp; omega)]
  exact ⟨by simp, .inl ⟨hf, rfl⟩⟩
 ·rw [gO hf]
  refine eK hs.cells ?_
  have r1 : ((2 * (len + 1) * 8).ble room && (len + 1).ble room) = true := by
   unfold room
   rw [cQ hr, cQ hr2]; rfl
  simp only [hO, eP, fW, aS, r1, true_and]
  exact .inr ⟨by omega, trivial⟩
theorem UM {id len C k : Nat} {z : Int} (hz : z = (k : Nat)) (hk : k ≤ C) {h' : Hp} {n' : Nat} : Rd (slice env 95 (.sl id 0 len (some C) 1) none (some (.int .i64 z)) none) h' n' [] (.sl id 0 k (some C) 1) := by
 subst hz
 simp only [slice, u95, qR, aD, cH, fR, bind_assoc, cB, Nat.zero_mul, Nat.add_zero, Nat.sub_zero, Int.toNat_natCast]
 exact Rd.bind (i2 := []) (Rd.ob (decide_eq_true ⟨by omega, by omega⟩)) (Rd.pure _)
theorem D9 {id len C k : Nat} {z : Int} (hz : z = (k : Nat)) (hk : k ≤ len) (hl : len ≤ C) {h' : Hp} {n' : Nat} : Rd (slice env 95 (.sl id 0 len (some C) 1) (some (.int .i64 z)) none none) h' n' [] (.sl id k (len - k) (some (C - k)) 1) := by
 subst hz
 simp only [slice, u95, qR, aD, cH, fR, bind_assoc, cB, Nat.zero_add, Nat.mul_one, Int.toNat_natCast]
 exact Rd.bind (i2 := []) (Rd.ob (decide_eq_true ⟨by omega, by omega⟩)) (Rd.pure _)
theorem MB {id len k : Nat} {z : Int} (hz : z = (k : Nat)) (hk : k ≤ len) {h' : Hp} {n' : Nat} : Rd (slice env 95 (.sl id 0 len none 1) (some (.int .i64 z)) none none) h' n' [] (.sl id k (len - k) none 1) := by
 subst hz
 simp only [slice, lO, u95, qR, aD, cH, fR, bind_assoc, cB, Nat.zero_add, Nat.mul_one, Int.toNat_natCast]
 exact Rd.bind (i2 := []) (Rd.ob (decide_eq_true ⟨by omega, by omega⟩)) (Rd.pure _)
theorem al7 (m : Nat) : (eS [a9.cY] m).length = m := by rw [MO]; simp
theorem RG {h : Hp} {n id k C m : Nat} {cells : List a9} {z : Int} (hz : z = (m : Nat)) (hh : h id = some (.row (.l cells) 128)) (hC : cells.length = C) (hk : k ≤ C) (hm : 0 < m) (hc : C < k + m) (hr : 2 * (k + m) * 8 ≤ 281474976710656) (hr2 : k + m ≤ 281474976710656) :
  Wp (eY env [95, 3] (.sl id 0 k (some C) 1) (.int .i64 z)) h n fun v' h' n' => v' = .sl n 0 (k + m) none 1 ∧ n' = n + 1 ∧ h' = upd h n (some (.row (.l (cells.take k ++ eS [.cY] m)) 128)) := by
 subst hz
 have hs : Rds h 1 (.sl id 0 k (some C) 1) k (cells.take k) := .sl id 0 k (some C) (.l cells) 128 _ hh (by rw [List.length_take]; omega) (by rw [List.length_take]; show 0 + _ ≤ cells.length; omega) (fun j hj => by
  rw [List.length_take] at hj
  rw [Nat.zero_add, bI.vX (by omega), List.getElem_take])
 have u3 : und env 3 = M.pure (.int .i64) := by simp only [und, ti3, aD]
 have d : decide (0 < ((m : Nat) : Int) ∧ C < k + ((m : Nat) : Int).toNat ∧ 0 < 1 ∧ (a9.cY.cells.all bC) = true) = true := decide_eq_true ⟨by omega, by rw [Int.toNat_natCast]; omega, by omega, rfl⟩
 have r1 : ((2 * (k + m) * 8).ble room && (k + m).ble room) = true := by
  unfold room
  rw [cQ hr, cQ hr2]; rfl
 simp only [eY, u3, aD, rW, fR, wP, u95, iO, cB, d, eP, true_and]
 refine eK hs.cells ?_
 simp only [hO, Int.toNat_natCast, eP, fW, aS, r1, true_and]
 rfl
theorem IJ {h : Hp} {n d doff dl sid soff sl m : Nat} {dcap scap : Option Nat} {dc xs : List a9} {e' e2 : TypeId} {c2 : bI} (hd : h d = some (.row (.l dc) e')) (hs : h sid = some (.row c2 e2)) (hm : min sl dl = m) (h0 : 0 < m) (hf : doff + m ≤ dc.length) (hc : soff + m ≤ c2.size) (hx : c2.sub soff m = xs) (h1 : xs.all bC = true) :
  Wr (copy env 95 (.sl d doff dl dcap 1) (.sl sid soff sl scap 1)) h n [d, sid] [d] (.int .i64 m) (upd h d (some (.row (.l (bV dc doff xs)) e'))) := by
 have hl : xs.length = m := by rw [← hx, bI.gK hc]
 have hsl : m ≤ sl := by omega
 simp only [copy, u95, aD, lenOf, qR, hm]
 have a0 : (m.beq 0) = false := jW (by omega)
 refine Wr.bind (i1 := []) (rs := [d, sid]) (Rd.ask _) ?_
 rw [a0]
 simp only
 refine Wr.bind (rs := [d]) (i1 := [sid]) (a := xs) ?_ ?_
 ·simp only [cJ, cB, Nat.mul_one]
  refine Rd.bind (i2 := []) (i1 := [sid]) (Rd.get hs) ?_
  simp only [eG]
  refine Rd.bind (i1 := []) (i2 := []) (Rd.ob (cQ hsl)) ?_
  refine Rd.bind (i1 := []) (i2 := []) (Rd.ob (cQ hc)) ?_
  rw [hx]
  exact Rd.pure _
 simp only [cB]
 refine Wr.ret (a := ()) ?_
 simp only [dK]
 refine Wr.bind (rs := []) (i1 := [d]) (Rd.get hd) ?_
 simp only [eG, bI.size]
 refine Wr.bind (rs := []) (i1 := []) (Rd.ob (cQ (by omega))) ?_
 simp only [h1]
 rw [mS _ _ _ (by omega)]
 exact Wr.set hd
theorem DU {α : Type} {ys : List α} {k : Nat} {v : α} (hk : k ≤ ys.length) (j : Nat) : (fB ys k v)[j]? = if j < k then ys[j]? else if j = k then some v else ys[j - 1]? := by
 have hl : (ys.take k).length = k := by rw [List.length_take]; omega
 unfold fB
 by_cases a : j < k
 ·rw [if_pos a, List.getElem?_append_left (by omega), List.getElem?_take, if_pos a]
 ·rw [if_neg a, List.getElem?_append_right (by omega), hl]
  by_cases b : j = k
  ·subst b; rw [if_pos rfl, Nat.sub_self]; rfl
  ·rw [if_neg b, show j - k = (j - k - 1) + 1 by omega, List.getElem?_cons_succ, List.getElem?_drop]
   congr 1; omega
theorem RM {xs ys : List a9} {k len : Nat} {v : a9} (hy : ys.length = len) (hk : k < len) (hx : len + 1 ≤ xs.length) (he : ∀ j, j < k → xs[j]? = ys[j]?) : (bV (bV xs k [v]) (k + 1) (ys.drop k)).take (len + 1) = fB ys k v := by
 have h1 : (bV xs k [v]).length = xs.length := eL (by simp; omega)
 have h2 : (ys.drop k).length = len - k := by rw [List.length_drop, hy]
 refine List.ext_getElem? fun j => ?_
 rw [DU (by omega)]
 by_cases hj : j < len + 1
 ·rw [List.getElem?_take, if_pos hj, qB (by rw [h1, h2]; omega), h2, qB (by simp; omega)]
  simp only [List.length_singleton]
  by_cases a : j < k
  ·rw [if_neg (by omega), if_neg (by omega), if_pos a, he j a]
  ·by_cases b : j = k
   ·subst b; rw [if_neg (by omega), if_pos (by omega), if_neg a, if_pos rfl, Nat.sub_self]; rfl
   ·rw [if_pos (by omega), if_neg a, if_neg b, List.getElem?_drop]
    congr 1; omega
 ·rw [List.getElem?_eq_none (by rw [List.length_take]; omega), if_neg (by omega), if_neg (by omega), List.getElem?_eq_none (by omega)]
theorem TB {xs : List a9} {k len : Nat} {v : a9} (hk : k < len) (hx : len + 1 ≤ xs.length) : (bV (bV xs (k + 1) ((xs.take len).drop k)) k [v]).take (len + 1) = fB (xs.take len) k v := by
 have hy : (xs.take len).length = len := by rw [List.length_take]; omega
 have h2 : ((xs.take len).drop k).length = len - k := by rw [List.length_drop, hy]
 have h1 : (bV xs (k + 1) ((xs.take len).drop k)).length = xs.length := eL (by rw [h2]; omega)
 refine List.ext_getElem? fun j => ?_
 rw [DU (by omega)]
 by_cases hj : j < len + 1
 ·rw [List.getElem?_take, if_pos hj, qB (by simp; omega), qB (by rw [h2]; omega), h2]
  simp only [List.length_singleton]
  by_cases a : j < k
  ·rw [if_neg (by omega), if_neg (by omega), if_pos a, List.getElem?_take, if_pos (by omega)]
  ·by_cases b : j = k
   ·subst b; rw [if_pos (by omega), if_neg a, if_pos rfl, Nat.sub_self]; rfl
   ·rw [if_neg (by omega), if_pos (by omega), if_neg a, if_neg b, List.getElem?_drop]
    congr 1; omega
 ·rw [List.getElem?_eq_none (by rw [List.length_take]; omega), if_neg (by omega), if_neg (by omega), List.getElem?_eq_none (by omega)]
theorem ah7 {h : Hp} {n xid id off len l2 off2 : Nat} {c1 c2 : Option Nat} {xc c : bI} {e' : TypeId} (hx : h xid = some (.row xc 128)) (hh : h id = some (.row c e')) (hne : xid ≠ id) (h1 : 0 < len) (h2 : 0 < l2) (h3 : 0 < c.size) :
  Wp (gG 128 [.sl xid off len c1 1, .sl id off2 l2 c2 1]) h n fun v' h' n' => v' = .bool false ∧ h' = h ∧ n' = n := by
 have b1 : (xid.beq id) = false := jW hne
 have b2 : Nat.blt 0 len = true := Nat.ble_eq_true_of_le h1
 have b3 : Nat.blt 0 l2 = true := Nat.ble_eq_true_of_le h2
 have b4 : Nat.blt 0 c.size = true := Nat.ble_eq_true_of_le h3
 simp only [gG, eP, b1, b2, b3, b4, Bool.not_false, Bool.and_self, eU, hx, hh, Option.some.injEq, exists_eq_left', eG, Nat.beq_refl, aS, and_self]
set_option maxHeartbeats 8000000 in
theorem f104 (h : Hp) (n : Nat) (id len C k xid : Nat) (cells : List a9) (xc : bI) (hh : h id = some (.row (.l cells) 128)) (hC : cells.length = C) (hl : len ≤ C) (h0 : 0 < C) (hr : 2 * (len + 1) * 8 ≤ 281474976710656) (hr2 : len + 1 ≤ 281474976710656) (hk : k ≤ len) (h1 : (cells.take len).all bC = true)
  (hx : h xid = some (.row xc 128)) (hxc : 0 < xc.size) (hv : bC (xc.at 0) = true) (hxn : xid < n) (hin : id < n) (hne : xid ≠ id) :
  Wp (aQ env (aE env) 104 [.sl id 0 len (some C) 1, .int .i64 (k : Nat), .sl xid 0 1 (some 1) 1]) h n fun v' h' n' =>
   (v' = .sl id 0 (len + 1) (some C) 1 ∧ n' = n ∧ len + 1 ≤ C ∧ ∃ cells', cells'.length = C ∧ cells'.take (len + 1) = fB (cells.take len) k (xc.at 0) ∧ ∀ j, h' j = if j = id then some (.row (.l cells') 128) else h j) ∨
   (v' = .sl n 0 (len + 1) none 1 ∧ n' = n + 1 ∧ ∀ j, h' j = if j = n then some (.row (.l (fB (cells.take len) k (xc.at 0))) 128) else h j) := by
 refine aW V0 UZ ?_
 have hs : Rds h 1 (.sl id 0 len (some C) 1) len (cells.take len) := .sl id 0 len (some C) (.l cells) 128 _ hh (by rw [List.length_take]; omega) (by rw [List.length_take]; show 0 + _ ≤ cells.length; omega) (fun j hj => by
  rw [List.length_take] at hj
  rw [Nat.zero_add, bI.vX (by omega), List.getElem_take])
 simp only [AJ, Try.f104, Option.getD_some, List.replicate, bK, fgr, execOp, opd, opt, ofValue, bQ, put, nth, aJ, ended, dD, dQ, List.append_eq, List.cons_append, List.nil_append, List.length_cons, List.length_nil, Nat.reduceAdd, Nat.reduceSub, Nat.zero_add, aS]
 rw [aH (hs.HN u95 qR rfl hk)]
 by_cases ek : k = len
 ·subst ek
  have ei : (((k : Nat) : Int) = ((k : Nat) : Int)) = True := by simp
  have hI : fB (cells.take k) k (xc.at 0) = cells.take k ++ [xc.at 0] := by
   have hlt : (cells.take k).length = k := by rw [List.length_take]; omega
   unfold fB
   rw [List.take_of_length_le (Nat.le_of_eq hlt), List.drop_eq_nil_of_le (Nat.le_of_eq hlt)]
  simp only [bK, fgr, execOp, opd, fF, ofValue, bQ, put, nth, aJ, dP, builtin, qU, qT, blr, bor, eX, fD, intOp, Int.cast_ofNat_Int, qI, Int.reduceEq, decide_true, decide_false, beq_self_eq_true]
  refine cN (RH hh hC hl hr hr2 hx hxc hv) fun v' h' n' hq => ?_
  rcases hq with ⟨c1, rfl, rfl, rfl⟩ | ⟨c1, rfl, rfl, rfl⟩
  ·simp only [bK, fgr, execOp, opd, bQ, put, nth, aJ, true_and]
   refine .inl ⟨c1, _, by rw [eL (by simp; omega)]; exact hC, ?_, fun j => rfl⟩
   rw [hI, show k + 1 = k + ([xc.at 0] : List a9).length from rfl, oR (by simp; omega)]
  ·simp only [bK, fgr, execOp, opd, bQ, put, nth, aJ, true_and]
   refine .inr fun j => ?_
   rw [hI]; rfl
 have hkl : k < len := by omega
 have ei : (((k : Nat) : Int) = ((len : Nat) : Int)) = False := by simp; omega
 simp (disch := omega) only [bK, tyr, fgr, execOp, opd, fF, ofValue, bQ, put, nth, aJ, dP, builtin, qU, blr, und, bor, eX, fD, intOp, bZ, Int.cast_ofNat_Int, qI, Int.reduceEq, gt_iff_lt, decide_true, decide_false, ei, UC, Q8, w64]
 by_cases ec : C < len + 1
 ·have e1 : (((C : Nat) : Int) < ((len : Nat) : Int) + 1) = True := by simp; omega
  simp only [bK, execOp, opd, opt, bQ, put, nth, decide_true, e1]
  rw [aH (UM rfl (by omega))]
  simp (disch := omega) only [bK, execOp, opd, fF, bQ, put, nth, dP, builtin, qT, bor, eX, fD, intOp, bZ, decide_true, w64]
  refine cN (RG (m := len + 1 - k) (by omega) hh hC (by omega) (by omega) (by omega) (by omega) (by omega)) fun v' h' n' ⟨e1, e2, e3⟩ => ?_
  subst e1; subst e2; subst e3
  rw [show k + (len + 1 - k) = len + 1 by omega]
  simp (disch := omega) only [bK, fgr, execOp, opd, opt, bQ, put, nth, aJ]
  rw [aH (MB rfl (by omega))]
  simp (disch := omega) only [bK, execOp, opd, fF, bQ, put, nth, dP, builtin, qT, AZ]
  have hh1 := aM h n (some (Blk.row (bI.l (cells.take k ++ eS [a9.cY] (len + 1 - k))) 128))
  have hL1 : (cells.take k ++ eS [a9.cY] (len + 1 - k)).length = len + 1 := by rw [List.length_append, List.length_take, al7]; omega
  have hxs : xc.sub 0 1 = [xc.at 0] := bI.sN hxc
  rw [dE (IJ (m := 1) hh1 ((aK _ _ (by omega)).trans hx) (by omega) (by omega) (by rw [hL1]; omega) hxc hxs (by simp [hv]))]
  simp (disch := omega) only [bK, fgr, bQ, put, aJ, Int.cast_ofNat_Int]
  generalize hH : upd (upd h n (some (Blk.row (bI.l (cells.take k ++ eS [a9.cY] (len + 1 - k))) 128))) n (some (Blk.row (bI.l (bV (cells.take k ++ eS [a9.cY] (len + 1 - k)) k [xc.at 0])) 128)) = H
  have hHo : ∀ j, j ≠ n → H j = h j := fun j hj => by rw [← hH, aK _ _ hj, aK _ _ hj]
  have hHn : H n = some (Blk.row (bI.l (bV (cells.take k ++ eS [a9.cY] (len + 1 - k)) k [xc.at 0])) 128) := by rw [← hH, aM]
  refine c9 ⟨rfl, ?_⟩
  simp (disch := omega) only [oE, pJ, execOp, opd, opt, bQ, put, nth, bor, eX, fD, intOp, bZ, Nat.reduceAdd, decide_true, Nat.zero_add, w64]
  rw [aZ (MB (k := k + 1) (by omega) (by omega))]
  simp (disch := omega) only [oE, pJ, execOp, opd, opt, bQ, put, nth, Nat.reduceAdd]
  rw [aZ (D9 (k := k) (by omega) (by omega) (by omega))]
  simp (disch := omega) only [oE, execOp, opd, fF, bQ, put, nth, dP, builtin, qT, AZ, Nat.reduceAdd]
  have hsub : (bI.l cells).sub k (len - k) = (cells.take len).drop k := by
   show (cells.drop k).take (len - k) = _
   rw [List.drop_take]
  have hone : ((cells.take len).drop k).all bC = true := by
   rw [List.all_eq_true] at h1 ⊢
   exact fun x hx => h1 x (List.mem_of_mem_drop hx)
  refine kN (IJ (m := len - k) hHn ((hHo id (by omega)).trans hh) (by omega) (by omega) (by rw [eL (by rw [hL1]; simp; omega), hL1]; omega) (by show k + (len - k) ≤ cells.length; omega) hsub hone) ?_
  simp (disch := omega) only [oD, bK, fgr, execOp, opd, bQ, put, nth, aJ, Nat.reduceAdd, true_and]
  refine ⟨(by (try simp (disch := omega) only [cM, List.all_cons, List.all_nil, yN, yM, Bool.not_false, Bool.true_or, Bool.and_true]); repeat' (first | rfl | exact (Bool.or_eq_true _ _).mpr (.inr rfl) | refine (Bool.and_eq_true _ _).mpr ⟨?_, ?_⟩)), .inr fun j => ?_⟩
  have := RM (xs := cells.take k ++ eS [a9.cY] (len + 1 - k)) (ys := cells.take len) (k := k) (len := len) (v := xc.at 0) (by rw [List.length_take]; omega) hkl (by omega) (fun j hj => by rw [List.getElem?_append_left (by rw [List.length_take]; omega), List.getElem?_take, if_pos hj, List.getElem?_take, if_pos (by omega)])
  rw [List.take_of_length_le (by rw [eL (by rw [eL (by rw [hL1]; simp; omega), hL1, List.length_drop, List.length_take]; omega), eL (by rw [hL1]; simp; omega)]; omega)] at this
  rw [this]
  by_cases q : j = n
  ·subst q; rw [aM, if_pos rfl]
  ·rw [aK _ _ q, if_neg q]; exact hHo j q
 have e1 : (((C : Nat) : Int) < ((len : Nat) : Int) + 1) = False := by simp; omega
 simp (disch := omega) only [bK, execOp, opd, opt, bQ, put, nth, bor, eX, fD, intOp, bZ, decide_true, decide_false, e1, w64]
 rw [aH (UM (k := len + 1) (by omega) (by omega))]
 simp (disch := omega) only [bK, fgr, execOp, opd, opt, bQ, put, nth, aJ, bor, eX, fD, intOp, bZ, decide_true, w64]
 rw [aH (D9 (k := k + 1) (by omega) (by omega) (by omega))]
 simp (disch := omega) only [bK, hkr, execOp, opd, fF, bQ, put, nth, dP, dV, List.nil_append, List.append_nil]
 refine dJ (ah7 hx hh hne (by omega) (by omega) (by show 0 < cells.length; omega)) ?_
 simp (disch := omega) only [bK, fgr, execOp, opd, bQ, put, nth, aJ, unOp, Bool.not_false]
 refine c9 ⟨rfl, ?_⟩
 simp (disch := omega) only [oE, pJ, execOp, opd, opt, bQ, put, nth, bor, eX, fD, intOp, bZ, Nat.reduceAdd, decide_true, Nat.zero_add, w64]
 rw [aZ (D9 (k := k + 1) (by omega) (by omega) (by omega))]
 simp (disch := omega) only [oE, pJ, execOp, opd, opt, bQ, put, nth, Nat.reduceAdd]
 rw [aZ (D9 (k := k) (by omega) (by omega) (by omega))]
 simp (disch := omega) only [oE, execOp, opd, fF, bQ, put, nth, dP, builtin, qT, AZ, Nat.reduceAdd]
 have hsub : (bI.l cells).sub k (len - k) = (cells.take len).drop k := by
  show (cells.drop k).take (len - k) = _
  rw [List.drop_take]
 have hone : ((cells.take len).drop k).all bC = true := by
  rw [List.all_eq_true] at h1 ⊢
  exact fun x hx => h1 x (List.mem_of_mem_drop hx)
 have hl2 : ((cells.take len).drop k).length = len - k := by rw [List.length_drop, List.length_take]; omega
 refine kN (IJ (m := len - k) hh hh (by omega) (by omega) (by omega) (by show k + (len - k) ≤ cells.length; omega) hsub hone) ?_
 simp (disch := omega) only [oD, bK, fgr, execOp, opd, opt, bQ, put, nth, aJ, Nat.reduceAdd]
 refine ⟨(by (try simp (disch := omega) only [cM, List.all_cons, List.all_nil, yN, yM, Bool.not_false, Bool.true_or, Bool.and_true]); repeat' (first | rfl | exact (Bool.or_eq_true _ _).mpr (.inr rfl) | refine (Bool.and_eq_true _ _).mpr ⟨?_, ?_⟩)), ?_⟩
 rw [aH (D9 (k := k) (by omega) (by omega) (by omega))]
 simp (disch := omega) only [bK, execOp, opd, fF, bQ, put, nth, dP, builtin, qT, AZ]
 have hxs : xc.sub 0 1 = [xc.at 0] := bI.sN hxc
 have hsp : (bV cells (k + 1) ((cells.take len).drop k)).length = C := by rw [eL (by rw [hl2]; omega)]; exact hC
 rw [dE (IJ (m := 1) (aM _ _ _) ((aK _ _ hne).trans hx) (by omega) (by omega) (by rw [hsp]; omega) hxc hxs (by simp [hv]))]
 simp (disch := omega) only [bK, fgr, execOp, opd, bQ, put, nth, aJ, Int.cast_ofNat_Int, true_and]
 refine .inl ⟨by omega, _, ?_, TB hkl (by omega), fun j => ?_⟩
 ·rw [eL (by rw [hsp]; simp; omega)]; exact hsp
 ·by_cases q : j = id
  ·subst q; rw [aM, if_pos rfl]
  ·rw [aK _ _ q, aK _ _ q, if_neg q]
theorem B6 {h : Hp} {n xid : Nat} {s : a9} {xc : bI} {e' : TypeId} (hs : s = .aL ∨ s = .emp ∨ ∃ id off c, s = .sl id off 0 (some 0) 1 ∧ h id = some (.row c 128) ∧ off ≤ c.size) (hx : h xid = some (.row xc e')) (hxc : 0 < xc.size) (hv : bC (xc.at 0) = true) :
  Wp (eY env [95, 95] s (.sl xid 0 1 (some 1) 1)) h n fun v' h' n' => v' = .sl n 0 1 none 1 ∧ n' = n + 1 ∧ ∀ j, h' j = if j = n then some (.row (.l [xc.at 0]) 128) else h j := by
 have hx1 : Rds h 1 (.sl xid 0 1 (some 1) 1) 1 [xc.at 0] := .sl xid 0 1 (some 1) xc e' _ hx rfl (by simp; omega) (fun j hj => by
  have : j = 0 := by simpa using hj
  subst this; rfl)
 have key : ∀ j, upd h n (some (Blk.row (bI.l [xc.at 0]) 128)) j = if j = n then some (.row (.l [xc.at 0]) 128) else h j := fun j => rfl
 have r1 : ((2 * 1 * 8).ble room && (1).ble room) = true := rfl
 rcases hs with rfl | rfl | ⟨id, off, c, rfl, hc1, hc2⟩
 ·simp only [eY, u95, aD, rW, append, iO, lenOf, fX, show (Nat.beq 1 0) = false from rfl]
  refine eK hx1.cells ?_
  simp only [hO, eP, fW, aS, r1, true_and]
  exact key
 ·simp only [eY, u95, aD, rW, append, iO, lenOf, fX, show (Nat.beq 1 0) = false from rfl]
  refine eK hx1.cells ?_
  simp only [hO, eP, fW, aS, r1, true_and]
  exact key
 ·simp only [eY, u95, aD, rW, append, iO, lenOf, fX, show (Nat.beq 1 0) = false from rfl]
  refine eK hx1.cells ?_
  have hs0 : Rds h 1 (.sl id off 0 (some 0) 1) 0 [] := .sl id off 0 (some 0) c 128 _ hc1 rfl (by simpa using hc2) (fun j hj => by simp at hj)
  simp only [cB, eU, hc1, Option.some.injEq, exists_eq_left', eG, fX, show (Nat.ble (0 + 1) 0) = false from rfl]
  refine eK hs0.cells ?_
  simp only [hO, Nat.zero_add, List.nil_append, eP, fW, aS, r1, true_and]
  exact key
theorem aw9 (h : Hp) (n : Nat) (s : a9) (xid : Nat) (xc : bI) (hs : s = .aL ∨ s = .emp ∨ ∃ id off c, s = .sl id off 0 (some 0) 1 ∧ h id = some (.row c 128) ∧ off ≤ c.size) (hx : h xid = some (.row xc 128)) (hxc : 0 < xc.size) (hv : bC (xc.at 0) = true) (hxn : xid < n) :
  Wp (aQ env (aE env) 104 [s, .int .i64 0, .sl xid 0 1 (some 1) 1]) h n fun v' h' n' => v' = .sl n 0 1 none 1 ∧ n' = n + 1 ∧ ∀ j, h' j = if j = n then some (.row (.l [xc.at 0]) 128) else h j := by
 refine aW V0 UZ ?_
 have hxs : xc.sub 0 1 = [xc.at 0] := bI.sN hxc
 have b1 : Nat.ble (0 + 1) xc.size = true := Nat.ble_eq_true_of_le hxc
 have b2 : Nat.ble 1 xc.size = true := Nat.ble_eq_true_of_le hxc
 rcases hs with rfl | rfl | ⟨id, off, c, rfl, hc1, hc2⟩
 ·simp only [AJ, Try.f104, Option.getD_some, List.replicate, bK, tyr, fgr, execOp, opd, fF, opt, ofValue, bQ, put, nth, aJ, dP, builtin, qU, qT, blr, und, sizeOf, bor, eX, fD, intOp, mR, fR, ended, dD, dQ, List.append_eq, List.cons_append, List.nil_append, List.length_cons, List.length_nil, Nat.reduceAdd, Nat.reduceSub, Int.cast_ofNat_Int, qI, Int.reduceEq, Int.reduceLE, decide_true, decide_false, true_and, Nat.zero_add, Int.toNat_zero, aS, beq_self_eq_true, slice, cH, BJ]
  refine cN (B6 (.inl rfl) hx hxc hv) fun v' h' n' ⟨e1, e2, e3⟩ => ?_
  subst e1
  simp only [bK, fgr, execOp, opd, bQ, put, nth, aJ, true_and, e2]
  exact e3
 ·simp only [AJ, Try.f104, Option.getD_some, List.replicate, bK, tyr, fgr, execOp, opd, fF, opt, ofValue, bQ, put, nth, aJ, dP, builtin, qU, qT, blr, und, sizeOf, bor, eX, fD, intOp, mR, fR, ended, dD, dQ, List.append_eq, List.cons_append, List.nil_append, List.length_cons, List.length_nil, Nat.reduceAdd, Nat.reduceSub, Int.cast_ofNat_Int, qI, Int.reduceEq, Int.reduceLE, decide_true, decide_false, true_and, Nat.zero_add, Int.toNat_zero, aS, beq_self_eq_true, slice, cH, BJ]
  refine cN (B6 (.inr (.inl rfl)) hx hxc hv) fun v' h' n' ⟨e1, e2, e3⟩ => ?_
  subst e1
  simp only [bK, fgr, execOp, opd, bQ, put, nth, aJ, true_and, e2]
  exact e3
 ·simp only [AJ, Try.f104, Option.getD_some, List.replicate, bK, tyr, fgr, execOp, opd, fF, opt, ofValue, bQ, put, nth, aJ, dP, builtin, qU, qT, blr, und, sizeOf, bor, eX, fD, intOp, mR, fR, ended, dD, dQ, cB, List.append_eq, List.cons_append, List.nil_append, List.length_cons, List.length_nil, Nat.reduceAdd, Nat.reduceSub, Int.cast_ofNat_Int, qI, Int.reduceEq, Int.reduceLE, decide_true, decide_false, true_and, Nat.zero_add, Nat.add_zero, Int.toNat_zero, Nat.zero_mul, aS, beq_self_eq_true, slice, cH, BJ]
  refine cN (B6 (.inr (.inr ⟨id, off, c, rfl, hc1, hc2⟩)) hx hxc hv) fun v' h' n' ⟨e1, e2, e3⟩ => ?_
  subst e1
  simp only [bK, fgr, execOp, opd, bQ, put, nth, aJ, true_and, e2]
  exact e3
theorem RI : IW env 104 128 oK.i := ⟨aw9, fun h n id len C k xid cells xc hh hC hl h0 hr hr2 hk h1 hx hxc hv hxn hin hne => f104 h n id len C k xid cells xc hh hC hl h0 hr hr2 hk h1 hx hxc hv hxn hin hne⟩
theorem WS : l8 Try.prog 108 cK := by
 refine DA (E := env) fun args s v s' h ho => ?_
 have h0 := h
 unfold cK at h0
 split at h0
 ·rename_i x y
  obtain ⟨e, hw⟩ := EK h ho
  refine ⟨e, ?_⟩
  refine aW av8 aq9 ?_
  simp only [OY, Try.f108, Option.getD_some, List.replicate, bK, fgr, hkr, execOp, opd, fF, ofValue, bQ, put, nth, aJ, dP, dV, ended, dD, dQ, List.cons_append, List.nil_append, List.append_nil, List.length_cons, List.length_nil, Nat.reduceAdd, Nat.reduceSub, Nat.zero_add, aS]
  refine cN hw fun v' h' n' ⟨e1, e2, e3⟩ => ?_
  subst e1
  simp only [bK, fgr, execOp, opd, bQ, put, nth, aJ, true_and]
  exact ⟨e2, e3⟩
 ·exact (aB h0).elim
def B3 : List a9 → M a9
 | [a] => match a with
  | .ptr s off => match off.beq 0 with
   | true => (eI s).bind (eG fun c _ => match c with
     | .l cs => match cs with
      | [x, lv] => match x with
       | .ptr _ _ => match lv with
        | .aL => M.pure (.int .i64 (-1))
        | .sl _ _ len _ _ => match len.ble 1000000 with
         | true => M.pure (.int .i64 ((len : Nat) - 1))
         | false => aY "Tip"
        | _ => aY "Tip"
       | _ => aY "Tip"
      | _ => aY "Tip"
     | _ => aY "Tip")
   | false => aY "Tip"
  | _ => aY "Tip"
 | _ => aY "Tip"
theorem aV9 (s x o : Nat) (lv : a9) (h : Hp) (n : Nat) (hr : Row h s [.ptr x o, lv]) : Wp (aQ env (aE env) 66 [.ptr s 0]) h n fun v' h' n' => v' = .bool false ∧ h' = h ∧ n' = n := by
 refine aW ad8 ad0 ?_
 simp only [GB, Try.f66, Option.getD_some, List.replicate, bK, tyr, fgr, execOp, opd, ofValue, bQ, put, nth, aJ, und, sizeOf, bor, bP, mR, gR, nilCheck, fS, ended, dD, dQ, aR, fieldAddr, bU, equal, iF, fH, fI, List.getElem?_cons_succ, List.getElem?_cons_zero, List.cons_append, List.nil_append, List.length_cons, List.length_nil, Nat.reduceSub, Bool.and_true, Bool.or_true, Nat.zero_add, aS]
 rw [aH (hr.one (off := 0) rfl sL rfl)]
 simp only [bK, tyr, fgr, execOp, opd, ofValue, bQ, put, nth, aJ, und, bor, bP, mR, gR, bH, branch, bU, equal, iF, fH, fI, List.getElem?_cons_succ, List.getElem?_cons_zero, Bool.and_true, Bool.or_true, and_self]
theorem aw8 (s x o : Nat) (lv : a9) (k : Nat) (h : Hp) (n : Nat) (hr : Row h s [.ptr x o, lv]) (hl : cA env [57] lv = M.pure (.int .i64 (k : Nat))) (h1 : kS RJ.i.desc = false) (hk : k ≤ 1000000) : Wp (aQ env (aE env) 20 [.ptr s 0]) h n fun v' h' n' => v' = .int .i64 ((k : Nat) - 1) ∧ h' = h ∧ n' = n := by
 have w1 : IntKind.i64.wrap (((k : Nat) : Int) - 1) = ((k : Nat) : Int) - 1 := w64 (by omega) (by omega)
 refine aW aV1 aL3 ?_
 simp only [ac4, Try.f20, Option.getD_some, List.replicate, bK, fgr, hkr, execOp, opd, fF, ofValue, bQ, put, nth, aJ, dP, dV, ended, dD, dQ, List.cons_append, List.nil_append, List.append_nil, List.length_cons, List.length_nil, Nat.reduceSub, Int.reduceNeg, Nat.zero_add, aS]
 refine dJ (aV9 s x o lv h n hr) ?_
 simp only [bK, tyr, fgr, execOp, opd, bQ, put, nth, aJ, und, sizeOf, nilCheck, fS, aR, fieldAddr, List.getElem?_cons_succ, List.getElem?_cons_zero, Int.reduceNeg, Nat.zero_add]
 rw [aH (hr.one (off := 1) rfl uE rfl)]
 simp only [bK, fgr, execOp, opd, fF, ofValue, bQ, put, nth, aJ, dP, builtin, qU, bor, eX, fD, intOp, bZ, decide_true, and_self, hl, w1]
theorem al4 : l8 Try.prog 20 B3 := by
 refine DA (E := env) fun args s v s' h ho => ?_
 unfold B3 at h
 split at h
 case h_2 => exact (aB h).elim
 rename_i a
 split at h
 case h_2 => exact (aB h).elim
 rename_i p off
 split at h
 case h_2 => exact (aB h).elim
 rename_i hoff
 have hoff := Nat.eq_of_beq_eq_true hoff
 subst hoff
 obtain ⟨b, s1, h1, h2⟩ := M.aF h
 obtain ⟨hg, e1⟩ := cV h1
 cases b with
 | row c t =>
  simp only [eG] at h2
  split at h2
  case h_2 => exact (aB h2).elim
  rename_i cs
  split at h2
  case h_2 => exact (aB h2).elim
  rename_i x lv
  split at h2
  case h_2 => exact (aB h2).elim
  rename_i xi xo
  split at h2
  ·obtain ⟨rfl, rfl⟩ := aC h2
   exact ⟨e1, aw8 p xi xo .aL 0 _ _ ⟨t, hg⟩ rfl rfl (by omega)⟩
  ·rename_i i o len cap sz
   split at h2
   ·rename_i hle
    obtain ⟨rfl, rfl⟩ := aC h2
    exact ⟨e1, aw8 p xi xo _ len _ _ ⟨t, hg⟩ rfl rfl (Nat.le_of_ble_eq_true hle)⟩
   ·exact (aB h2).elim
  ·exact (aB h2).elim
 | _ => exact (aB h2).elim
end Go.Am.Ytlgebaofkolkoaa.Ins
