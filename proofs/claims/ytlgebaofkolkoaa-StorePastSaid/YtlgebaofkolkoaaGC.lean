/- What the statement reaches, gone through; and the abstract machine that goes through it. -/
import Derived.Test.YtlgebaofkolkoaaGB
import Derived.KernelRfl
import Derived.Test.YtlgebaofkolkoaaProg
import Derived.Maps.RangeRun
set_option linter.unusedSimpArgs false
set_option linter.unusedVariables false
set_option linter.defProp false
namespace Go.Am
open Go
def fK {α : Type} (l : List α) (k : Nat) (v : α) : List α := l.take k ++ v :: l.drop k
theorem jE {α : Type} (l : List α) (k : Nat) (v : α) : (fK l k v).length = l.length + 1 := by simp [fK]; omega
def ai9 (k : Int) (len : Nat) : Bool := decide (0 ≤ k ∧ k ≤ (len : Int))
def OR : M Nat := ⟨fun s => .ok s.next s, by
 intro s a s' h
 injection h with h1 h2
 subst h1; subst h2
 exact ⟨[], [], [], ⟨Nat.le_refl _, rfl, rfl, rfl, fun _ _ _ => rfl, fun _ h => (by cases h), fun t hn ho hg =>
  ⟨t, by rw [hn], hn, ho, rfl, rfl, rfl, fun id hid => hg id (.inr hid), fun _ _ _ => rfl⟩, id, fun _ h => (by cases h)⟩⟩⟩
theorem TC {n : Nat} {s s' : St} (h : OR.run s = .ok n s') : n = s.next ∧ fL s s' := by
 injection h with h1 h2
 subst h1; subst h2
 exact ⟨rfl, .refl _⟩
theorem SE {α : Type} {f : Nat → M α} {h : Hp} {n : Nat} {Q : α → Hp → Nat → Prop} : Wp (OR.bind f) h n Q ↔ Wp (f n) h n Q := by
 rw [cW]
 constructor
 ·intro hw
  obtain ⟨s, a, s', ⟨h1, h2, h3⟩, he, hq⟩ := hw
  have := he.run
  injection this with e1 e2
  subst e1; subst e2
  rw [h1, h2] at hq
  exact hq
 ·intro hw
  exact ⟨at0 h n, n, at0 h n, mE h n, ⟨rfl, ⟨[], rfl, rfl⟩, rfl⟩, hw⟩
def rH (e : TypeId) (i : TI) (at_ : Int) (v : a9) : M a9 := (ob (decide (at_ = 0))).bind fun _ => iG e i 1 [v]
def vG (e : TypeId) (i : TI) : List a9 → M a9
 | [s, .int .i64 at_, .sl xid 0 1 (some 1) 1] => OR.bind fun nx => (eQ xid).bind (eE fun xc xt => (ob (Nat.blt xid nx && (Nat.blt 0 xc.size && (xt.beq e && bB (xc.at 0))))).bind fun _ => match s with
  | .aN => rH e i at_ (xc.at 0)
  | .emp => rH e i at_ (xc.at 0)
  | .sl id off len cap sz => cB sz 1 (match cap with
   | some m => (eQ id).bind (eE fun c t => (ob (Nat.blt id nx && (m.beq 0 && (len.beq 0 && (t.beq e && off.ble c.size))))).bind fun _ => rH e i at_ (xc.at 0))
   | none => (eQ id).bind (eE fun c t => (ob (Nat.blt id nx && (off.beq 0 && (t.beq e && (Nat.blt 0 c.size && (len.ble c.size && ((id.beq xid).not && (ai9 at_ len && (c.sub 0 len).all bB)))))))).bind fun _ =>
     (zO id).bind fun _ => iG e i (len + 1) (fK (c.sub 0 len) at_.toNat (xc.at 0))))
  | _ => bD "Insert")
 | _ => bD "Insert"
structure JE (E : Env) (f : FuncId) (e : TypeId) (i : TI) : Prop where
 nil : ∀ (h : Hp) (n : Nat) (s : a9) (xid : Nat) (xc : bG), (s = .aN ∨ s = .emp ∨ ∃ id off c, s = .sl id off 0 (some 0) 1 ∧ h id = some (.row c e) ∧ off ≤ c.size) → h xid = some (.row xc e) → 0 < xc.size → bB (xc.at 0) = true → xid < n →
  Wp (bH E (aV E) f [s, .int .i64 0, .sl xid 0 1 (some 1) 1]) h n fun v' h' n' => v' = .sl n 0 1 none 1 ∧ n' = n + 1 ∧ ∀ j, h' j = if j = n then some (.row (.l [xc.at 0]) e) else h j
 at_ : ∀ (h : Hp) (n : Nat) (id len C k xid : Nat) (cells : List a9) (xc : bG), h id = some (.row (.l cells) e) → cells.length = C → len ≤ C → 0 < C → 2 * (len + 1) * i.bytes ≤ 281474976710656 → len + 1 ≤ 281474976710656 → k ≤ len → (cells.take len).all bB = true →
  h xid = some (.row xc e) → 0 < xc.size → bB (xc.at 0) = true → xid < n → id < n → xid ≠ id →
  Wp (bH E (aV E) f [.sl id 0 len (some C) 1, .int .i64 (k : Nat), .sl xid 0 1 (some 1) 1]) h n fun v' h' n' =>
   (v' = .sl id 0 (len + 1) (some C) 1 ∧ n' = n ∧ len + 1 ≤ C ∧ ∃ cells', cells'.length = C ∧ cells'.take (len + 1) = fK (cells.take len) k (xc.at 0) ∧ ∀ j, h' j = if j = id then some (.row (.l cells') e) else h j) ∨
   (v' = .sl n 0 (len + 1) none 1 ∧ n' = n + 1 ∧ ∀ j, h' j = if j = n then some (.row (.l (fK (cells.take len) k (xc.at 0))) e) else h j)
section
variable {P : Program} {f : FuncId} {ρ : Ren} {m : Mem} {s s' : St} {w : World}
theorem Rel.NF {h h' : Nat → Option Blk} (hr : Rel P ρ m h w) {id : Nat} {c c2 : bG} {t : TypeId} (hg : h id = some (.row c t)) {r : RB} (hρ : ρ id = some r) (hs : c2.size ≤ r.n) (hc : ∀ j, j < c2.size → c2.at j = .aA ∨ (j < c.size ∧ c2.at j = c.at j))
  (hh : ∀ j, h' j = if j = id then some (.row c2 t) else h j) : Rel P ρ m h' w where
 dL := fun j b hj => by
  rw [hh j] at hj
  by_cases e : j = id
  ·subst e
   rw [if_pos rfl] at hj
   injection hj with hj
   subst hj
   obtain ⟨rb, o, q1, q2, q3, q4⟩ := hr.dL j _ hg
   rw [hρ] at q1
   injection q1 with q1
   subst q1
   cases q3 with
   | row _ _ arr fr hs' hn hc' hrr hf =>
    refine ⟨r, _, hρ, q2, .row r c2 t arr fr hs' hn (by omega) (fun j x hj hx => ?_) hf, q4⟩
    rcases hc j hj with e | ⟨h1, h2⟩
    ·rw [e]; exact .aA _
    ·rw [h2]; exact hrr j x h1 hx
  ·rw [if_neg e] at hj
   exact hr.dL j b hj
 inj := fun i j b1 b2 r1 r2 h1 h2 h3 h4 h5 => by
  have up : ∀ {k b}, h' k = some b → ∃ b', h k = some b' := fun {k b} hk => by
   rw [hh k] at hk
   by_cases e : k = id
   ·subst e; exact ⟨_, hg⟩
   ·rw [if_neg e] at hk; exact ⟨_, hk⟩
  obtain ⟨b1', h1'⟩ := up h1
  obtain ⟨b2', h2'⟩ := up h2
  exact hr.inj i j _ _ r1 r2 h1' h2' h3 h4 h5
 mem := hr.mem
theorem Rel.sub {h h' : Nat → Option Blk} (hr : Rel P ρ m h w) (hh : ∀ j b, h' j = some b → h j = some b) : Rel P ρ m h' w :=
 ⟨fun id b hb => hr.dL id b (hh id b hb), fun i j b c r r' h1 h2 => hr.inj i j b c r r' (hh i b h1) (hh j c h2), hr.mem⟩
theorem FH.imp {xs : Array Value} {K K' : Value → World → Prop} (h : FH P f xs w K) (hk : ∀ v w', K v w' → K' v w') : FH P f xs w K' := by
 rcases h with ⟨h1, h2⟩ | ⟨v, w', h1, h2⟩
 ·exact .inl ⟨h1, h2.mono fun e w' ⟨v, h3, h4⟩ => ⟨v, h3, hk v w' h4⟩⟩
 ·exact .inr ⟨v, w', h1, hk v w' h2⟩
theorem ax4 {x y z : a9} {xs : Array Value} (h : RL ρ m [x, y, z] xs) : ∃ a b c, xs = #[a, b, c] ∧ R ρ m x a ∧ R ρ m y b ∧ R ρ m z c := by
 obtain ⟨l, r⟩ := h
 obtain ⟨xl⟩ := xs
 match xl with
 | [] => simp at l
 | [_] => simp at l
 | [_, _] => simp at l
 | [a, b, c] => exact ⟨a, b, c, rfl, r 0 _ _ rfl rfl, r 1 _ _ rfl rfl, r 2 _ _ rfl rfl⟩
 | _ :: _ :: _ :: _ :: _ => simp at l
theorem N9 {x y z : a9} {a b c : Value} (ha : R ρ m x a) (hb : R ρ m y b) (hc : R ρ m z c) : RL ρ m [x, y, z] #[a, b, c] := by
 refine ⟨rfl, fun i u v hu hv => ?_⟩
 match i with
 | 0 => simp at hu hv; subst hu; subst hv; exact ha
 | 1 => simp at hu hv; subst hu; subst hv; exact hb
 | 2 => simp at hu hv; subst hu; subst hv; exact hc
 | i + 3 => simp at hu
theorem E9 {e : TypeId} {i : TI} {need : Nat} {cs : List a9} {v : a9} (h : (iG e i need cs).run s = .ok v s') (ho : bT s') :
  2 * need * i.bytes ≤ 281474976710656 ∧ need ≤ 281474976710656 ∧ v = .sl s.next 0 need none i.size ∧ s'.next = s.next + 1 ∧ ∀ j, s'.heap.get j = if j = s.next then some (.row (.l cs) e) else s.heap.get j := by
 obtain ⟨_, s1, h1, h2, ho1, _, _⟩ := M.aL h ho
 obtain ⟨hb, e1⟩ := dQ h1 ho1
 obtain ⟨id, s2, h3, h4⟩ := M.aG h2
 obtain ⟨rfl, rfl⟩ := aD h4
 obtain ⟨rfl, k1, k2⟩ := vB h3
 simp only [Bool.and_eq_true] at hb
 rw [e1.next] at k1 k2 ⊢
 rw [e1.heap] at k2
 exact ⟨Nat.le_of_ble_eq_true hb.1, Nat.le_of_ble_eq_true hb.2, rfl, k1, k2⟩
theorem FK {α : Type} {mm : M α} {h : Hp} {n : Nat} {Q : α → Hp → Nat → Prop} (hw : Wp mm h n Q) : ∃ a t, mm.run (at0 h n) = .ok a t ∧ bT t ∧ Q a t.heap.get t.next := by
 obtain ⟨a, t, he, hq⟩ := HZ hw (mE h n)
 obtain ⟨o, h1, h2⟩ := he.obs
 refine ⟨a, t, he.run, ?_, hq⟩
 unfold bT
 rw [h1]
 simpa [at0] using h2
end
theorem SU {E : Env} {f : FuncId} {e : TypeId} {i : TI} (W : JE E f e i) (h1 : i.size = 1) : lA E.P f (vG e i) := by
 intro args s v s' h ho ρ m w xs hr hfr hx
 unfold vG at h
 split at h
 ·rename_i S at_ xid
  obtain ⟨nx, s0, g01, g02⟩ := M.aG h
  obtain ⟨rfl, e0⟩ := TC g01
  obtain ⟨xb, s1, g1, g2, go1, _, gn1⟩ := M.aL g02 ho
  obtain ⟨hgx, e1⟩ := dE g1
  rw [e0.heap] at hgx
  obtain ⟨xc, xt, rfl, g3⟩ := iW g2
  obtain ⟨_, s2, g4, g5, go2, _, gn2⟩ := M.aL g3 ho
  obtain ⟨hb, e2⟩ := dQ g4 go2
  simp only [Bool.and_eq_true] at hb
  obtain ⟨hxn, hxc, hxt, hone⟩ := hb
  have hxn : xid < s.next := Nat.le_of_ble_eq_true hxn
  have hxc : 0 < xc.size := Nat.le_of_ble_eq_true hxc
  obtain rfl := Nat.eq_of_beq_eq_true hxt
  have e12 := (e0.trans e1).trans e2
  obtain ⟨X, K, Y, rfl, rX, rK, rY⟩ := ax4 hx
  obtain rfl := rK.cH
  have fresh_live : ∀ {j b}, s.heap.get j = some b → s.next < s'.next → j ≠ s.next := fun {j b} hj hn e => by
   subst e
   obtain ⟨rb, o, q1, _⟩ := hr.dL s.next b hj
   rw [hfr s.next ⟨Nat.le_refl _, hn⟩] at q1
   cases q1
  have new1 : ∀ {S' : a9}, R ρ m S' X → (S' = .aN ∨ S' = .emp ∨ ∃ id off c, S' = .sl id off 0 (some 0) 1 ∧ s.heap.get id = some (.row c xt) ∧ off ≤ c.size) → ∀ s3, fL s s3 → (rH xt i at_ (xc.at 0)).run s3 = .ok v s' →
    FH E.P f #[X, .int .i64 at_, Y] w fun x w' => ∃ ρ', dV E.P ρ m s w ρ' m s' w' ∧ R ρ' m v x := by
   intro S' rS hS s3 e3 hg
   obtain ⟨_, s4, k1, k2, ko4, _, _⟩ := M.aL hg ho
   obtain ⟨hat, e4⟩ := dQ k1 ko4
   have hat := of_decide_eq_true hat
   subst hat
   obtain ⟨_, _, rfl, k3, k4⟩ := E9 k2 ho
   have e34 := e3.trans e4
   rw [e34.next] at k3 k4 ⊢
   rw [e34.heap] at k4
   obtain ⟨v', t, r1, r2, rfl, r4, r5⟩ := FK (W.nil s.heap.get s.next S' xid xc hS hgx hxc hone hxn)
   have rr : Rel E.P ρ m (at0 s.heap.get s.next).heap.get w := hr.congr fun _ => rfl
   refine (nV lG f _ _ _ _ r1 r2 ρ m w _ rr (fun id hid => hfr id ⟨hid.1, by have := hid.2; omega⟩) (N9 rS (.int _ _) rY)).imp fun x w' ⟨ρ', p, q⟩ => ?_
   refine ⟨ρ', ⟨p.ren, fun id hid => (p.new id hid).imp_right fun z => ⟨z.1, by have := z.2; omega⟩, p.mem, p.rel.sub fun j b hj => ?_, p.fr, by omega⟩, ?_⟩
   ·rw [k4] at hj; rw [r5]; exact hj
   ·rw [h1]; exact q
  split at g5
  ·exact new1 rX (.inl rfl) s2 e12 g5
  ·exact new1 rX (.inr (.inl rfl)) s2 e12 g5
  ·rename_i id off len cap sz
   obtain ⟨rfl, g6⟩ := dM g5
   cases cap with
   | some mm =>
    obtain ⟨b3, s3, g7, g8, go3, _, _⟩ := M.aL g6 ho
    obtain ⟨hg3, e3⟩ := dE g7
    obtain ⟨c, t, rfl, g9⟩ := iW g8
    obtain ⟨_, s4, g10, g11, go4, _, _⟩ := M.aL g9 ho
    obtain ⟨hb, e4⟩ := dQ g10 go4
    simp only [Bool.and_eq_true] at hb
    obtain ⟨_, b1, b2, b3, b4⟩ := hb
    obtain rfl := Nat.eq_of_beq_eq_true b1
    obtain rfl := Nat.eq_of_beq_eq_true b2
    obtain rfl := Nat.eq_of_beq_eq_true b3
    rw [e12.heap] at hg3
    exact new1 rX (.inr (.inr ⟨id, off, c, rfl, hg3, Nat.le_of_ble_eq_true b4⟩)) s4 ((e12.trans e3).trans e4) g11
   | none =>
    obtain ⟨b3, s3, g7, g8, go3, _, _⟩ := M.aL g6 ho
    obtain ⟨hg3, e3⟩ := dE g7
    obtain ⟨c, t, rfl, g9⟩ := iW g8
    obtain ⟨_, s4, g10, g11, go4, _, _⟩ := M.aL g9 ho
    obtain ⟨hb, e4⟩ := dQ g10 go4
    simp only [Bool.and_eq_true] at hb
    obtain ⟨b0, b1, b2, b3, b4, b5, b6, b7⟩ := hb
    have b0 : id < s.next := Nat.le_of_ble_eq_true b0
    obtain rfl := Nat.eq_of_beq_eq_true b1
    obtain rfl := Nat.eq_of_beq_eq_true b2
    have b3 : 0 < c.size := Nat.le_of_ble_eq_true b3
    have b4 := Nat.le_of_ble_eq_true b4
    have b5 : id ≠ xid := fun q => by subst q; simp at b5
    obtain ⟨b6, b8⟩ := of_decide_eq_true b6
    obtain ⟨k, rfl⟩ := Int.eq_ofNat_of_zero_le b6
    rw [e12.heap] at hg3
    have e14 := (e12.trans e3).trans e4
    obtain ⟨_, s5, g12, g13⟩ := M.aG g11
    obtain ⟨_, k1, k2⟩ := tY g12
    obtain ⟨c1, c2, rfl, k3, k4⟩ := E9 g13 ho
    rw [k1, e14.next] at k3 k4 ⊢
    have k2 : ∀ j, s5.heap.get j = if j = id then none else s.heap.get j := fun j => by rw [k2, e14.heap]
    simp only [k2, Int.toNat_natCast] at k4
    have nid := fresh_live hg3 (by omega)
    have nxid := fresh_live hgx (by omega)
    obtain ⟨r, C, hρ, rfl, hC⟩ : ∃ r C, ρ id = some r ∧ X = .slice (some ⟨r.b, 0, none⟩) len C ∧ C = r.n ∧ r.s = 1 ∧ len ≤ C := by
     cases rX with
     | slw _ _ _ C _ r hρ hl hs hc => exact ⟨r, C, hρ, rfl, by omega, hs, hl⟩
     | sl0 _ _ _ _ ad hc hn =>
      obtain ⟨r, q1, q2⟩ := hn rfl
      obtain ⟨arr, fr, _, _, p3, p4, _⟩ := hr.row hg3 q1
      omega
    obtain ⟨rfl, hs1, hlC⟩ := hC
    obtain ⟨arr, fr, p1, p2, p3, p4, p5, p6, p7⟩ := hr.row hg3 hρ
    let cells : List a9 := c.sub 0 c.size ++ List.replicate (r.n - c.size) .aA
    let cc : bG := .l cells
    let hh : Hp := fun j => if j = id then some (.row cc t) else s.heap.get j
    have hl0 : (c.sub 0 c.size).length = c.size := bG.gQ (by omega)
    have hcl : cells.length = r.n := by
     show (c.sub 0 c.size ++ List.replicate (r.n - c.size) a9.aA).length = _
     rw [List.length_append, hl0, List.length_replicate]; omega
    have hcg : ∀ j, j < c.size → cells[j]? = some (c.at j) := fun j hj => by
     show (c.sub 0 c.size ++ List.replicate (r.n - c.size) a9.aA)[j]? = _
     rw [List.getElem?_append_left (by omega), bG.wU (c := c) (by omega) hj, Nat.zero_add]
    have hcs : cells.take len = c.sub 0 len := by
     apply List.ext_getElem?
     intro j
     by_cases hj : j < len
     ·rw [List.getElem?_take, if_pos hj, hcg j (by omega), bG.wU (c := c) (by omega) hj, Nat.zero_add]
     ·rw [List.getElem?_eq_none (by rw [List.length_take]; omega), List.getElem?_eq_none (by rw [bG.gQ (by omega)]; omega)]
    have rr : Rel E.P ρ m (at0 hh s.next).heap.get w := by
     refine hr.NF (c2 := cc) hg3 hρ (by show cells.length ≤ _; omega) (fun j hj => ?_) (fun j => rfl)
     have hj : j < cells.length := hj
     by_cases q : j < c.size
     ·refine .inr ⟨q, ?_⟩
      show nth cells j .aA = _
      have := pW cells j hj
      rw [hcg j q] at this
      injection this with this
      exact this.symm
     ·refine .inl ?_
      show nth cells j .aA = _
      have := pW cells j hj
      rw [show cells = c.sub 0 c.size ++ List.replicate (r.n - c.size) a9.aA from rfl, List.getElem?_append_right (by omega), List.getElem?_replicate, if_pos (by omega)] at this
      injection this with this
      exact this.symm
    have hgx' : hh xid = some (.row xc t) := by show (if xid = id then _ else _) = _; rw [if_neg (Ne.symm b5)]; exact hgx
    obtain ⟨v', u, r1, r2, r3⟩ := FK (W.at_ hh s.next id len r.n k xid cells xc (if_pos rfl) hcl hlC (by omega) c1 c2 (by omega) (by rw [hcs]; exact b7) hgx' hxc hone hxn b0 (Ne.symm b5))
    rw [hcs] at r3
    have hun : u.next ≤ s.next + 1 := by rcases r3 with ⟨_, q, _⟩ | ⟨_, q, _⟩ <;> omega
    refine (nV lG f _ _ _ _ r1 r2 ρ m w _ rr (fun id hid => hfr id ⟨hid.1, by have := hid.2; omega⟩) (N9 (.slx id 0 len r.n 1 r hρ hlC) (.int _ _) rY)).imp fun x w' ⟨ρ', p, q⟩ => ?_
    rcases r3 with ⟨rfl, q2, q3, c', q4, q5, q6⟩ | ⟨rfl, q2, q6⟩
    ·have hρ' : ρ' id = some r := p.ren _ _ hρ
     have hnew : ρ' s.next = none := by
      cases he : ρ' s.next with
      | none => rfl
      | some z =>
       rcases p.new s.next (by rw [he]; simp) with y | y
       ·exact absurd (hfr s.next ⟨Nat.le_refl _, by omega⟩) y
       ·have := y.2; simp only [q2] at this; exact absurd this (Nat.lt_irrefl _)
     have hlen : (fK (c.sub 0 len) k (xc.at 0)).length = len + 1 := by rw [jE, bG.gQ (by omega)]
     have rel2 := p.rel.NF (id := id) (c := .l c') (c2 := .l (fK (c.sub 0 len) k (xc.at 0))) (t := t) (r := r) (h' := fun j => if j = id then some (.row (.l (fK (c.sub 0 len) k (xc.at 0))) t) else u.heap.get j) (by rw [q6, if_pos rfl]) hρ'
      (by show (fK (c.sub 0 len) k (xc.at 0)).length ≤ _; omega)
      (fun j hj => by
       have hj : j < len + 1 := by rw [← hlen]; exact hj
       have hj2 : j < c'.length := by omega
       refine .inr ⟨hj2, ?_⟩
       show nth (fK (c.sub 0 len) k (xc.at 0)) j .aA = nth c' j .aA
       have z1 := pW (fK (c.sub 0 len) k (xc.at 0)) j (by omega)
       have z2 := pW c' j hj2
       rw [← q5, List.getElem?_take, if_pos hj, z2] at z1
       injection z1 with z1
       rw [q5] at z1
       exact z1.symm) (fun j => rfl)
     have rel3 := rel2.ND (h' := s'.heap.get) (id := id) (id' := s.next) (b := .row (.l (fK (c.sub 0 len) k (xc.at 0))) t) (r := r) (if_pos rfl) hρ' hnew (fun j => by
      rw [k4 j]
      by_cases y1 : j = s.next
      ·simp [y1]
      ·by_cases y2 : j = id
       ·simp [y1, y2]
       ·simp only [if_neg y1, if_neg y2]
        rw [q6 j, if_neg y2]
        exact (if_neg y2).symm)
     have le2 : gP ρ' (ρ'.put s.next r) := gP.put hnew
     refine ⟨ρ'.put s.next r, ⟨fun j z hz => le2 _ _ (p.ren j z hz), fun j hj => ?_, p.mem, rel3, p.fr, by omega⟩, ?_⟩
     ·by_cases y : j = s.next
      ·exact .inr ⟨by omega, by omega⟩
      ·have : ρ' j ≠ none := by unfold Ren.put at hj; rwa [if_neg y] at hj
       exact (p.new j this).imp_right fun z => ⟨z.1, by have := z.2; simp only [q2] at this; omega⟩
     ·cases q with
      | slx _ _ _ C2 _ r2 hρ2 hl2 =>
       rw [hρ'] at hρ2
       injection hρ2 with hρ2
       subst hρ2
       rw [h1]
       exact .slw s.next 0 (len + 1) _ 1 r (by unfold Ren.put; rw [if_pos rfl]) hl2 hs1 (by omega)
    ·refine ⟨ρ', ⟨p.ren, fun id hid => (p.new id hid).imp_right fun z => ⟨z.1, by have := z.2; omega⟩, p.mem, p.rel.sub fun j b hj => ?_, p.fr, by omega⟩, ?_⟩
     ·rw [k4] at hj
      rw [q6]
      by_cases y1 : j = s.next
      ·rw [if_pos y1] at hj ⊢; exact hj
      ·rw [if_neg y1] at hj ⊢
       by_cases y2 : j = id
       ·rw [if_pos y2] at hj; cases hj
       ·rw [if_neg y2] at hj
        show (if j = id then _ else _) = _
        rw [if_neg y2]; exact hj
     ·rw [h1]; exact q
  ·exact (aC g5).elim
 ·exact (aC h).elim
theorem DE {E : Env} {f : FuncId} {act : List a9 → M a9} (W : ∀ args s v s', (act args).run s = .ok v s' → bT s' → fL s s' ∧ Wp (bH E (aV E) f args) s.heap.get s.next fun v' h' n' => v' = v ∧ h' = s.heap.get ∧ n' = s.next) : lA E.P f act := by
 intro args s v s' h ho ρ m w xs hr hfr hx
 obtain ⟨e, hw⟩ := W args s v s' h ho
 obtain ⟨v', t, r1, r2, rfl, r4, r5⟩ := FK hw
 have rr : Rel E.P ρ m (at0 s.heap.get s.next).heap.get w := hr.congr fun _ => rfl
 have no : ∀ id, ¬ New (at0 s.heap.get s.next) t id := fun id hid => by
  have h1 : s.next ≤ id := hid.1
  have h2 := hid.2
  omega
 refine (nV lG f _ _ _ _ r1 r2 ρ m w _ rr (fun id hid => absurd hid (no id)) hx).imp fun x w' ⟨ρ', p, q⟩ => ?_
 refine ⟨ρ', ⟨p.ren, fun id hid => (p.new id hid).elim .inl fun z => absurd z (no id), p.mem, p.rel.congr fun id => ?_, p.fr, by rw [e.next]; exact Nat.le_refl _⟩, q⟩
 rw [e.heap, r4]
theorem B3 {cs : List a9} {l : List UInt8} {s s' : St} (h : (mQ cs).run s = .ok l s') (ho : bT s') : fL s s' ∧ cs.all qC = true ∧ l = cs.map iV := by
 unfold mQ at h
 obtain ⟨_, s1, h1, h2, ho1, _, _⟩ := M.aL h ho
 obtain ⟨hall, e1⟩ := dQ h1 ho1
 obtain ⟨rfl, rfl⟩ := aD h2
 exact ⟨e1, hall, rfl⟩
theorem yW {a : a9} {l : List UInt8} {s s' : St} (h : (iE a).run s = .ok l s') (ho : bT s') : fL s s' ∧ ∀ {α : Type} {f : List UInt8 → M α} {n : Nat} {Q : α → Hp → Nat → Prop}, Wp (f l) s.heap.get n Q → Wp ((iE a).bind f) s.heap.get n Q := by
 cases a with
 | aN => obtain ⟨rfl, rfl⟩ := aD h; exact ⟨.refl _, fun hw => by simp only [iE, aB]; exact hw⟩
 | emp => obtain ⟨rfl, rfl⟩ := aD h; exact ⟨.refl _, fun hw => by simp only [iE, aB]; exact hw⟩
 | str l => obtain ⟨rfl, rfl⟩ := aD h; exact ⟨.refl _, fun hw => by simp only [iE, aB]; exact hw⟩
 | sl id off len cap sz =>
  obtain ⟨rfl, h1⟩ := dM h
  obtain ⟨cs, s1, h2, h3, ho1, _, _⟩ := M.aL h1 ho
  obtain ⟨e3, q1, q2⟩ := B3 h3 ho
  unfold cC at h2
  obtain ⟨b, s2, h4, h5, ho2, _, _⟩ := M.aL h2 ho1
  obtain ⟨hg, e1⟩ := dE h4
  obtain ⟨c, t, rfl, h6⟩ := iW h5
  obtain ⟨_, s3, h7, h8, ho3, _, _⟩ := M.aL h6 ho1
  obtain ⟨hb, e2⟩ := dQ h7 ho3
  obtain ⟨rfl, rfl⟩ := aD h8
  refine ⟨(e1.trans e2).trans e3, fun hw => ?_⟩
  subst q2
  simp only [iE, cC, mQ, cB, bind_assoc, eT, hg, Option.some.injEq, exists_eq_left', eE, eL, show (Nat.beq 1 1) = true from rfl, aB, hb, q1, true_and]
  exact hw
 | isl g sz off len =>
  obtain ⟨rfl, h1⟩ := dM h
  obtain ⟨cs, s1, h2, h3, ho1, _, _⟩ := M.aL h1 ho
  obtain ⟨e3, q1, q2⟩ := B3 h3 ho
  unfold cC at h2
  obtain ⟨_, s3, h7, h8, ho3, _, _⟩ := M.aL h2 ho1
  obtain ⟨hb, e2⟩ := dQ h7 ho3
  obtain ⟨rfl, rfl⟩ := aD h8
  refine ⟨e2.trans e3, fun hw => ?_⟩
  subst q2
  simp only [iE, cC, mQ, cB, bind_assoc, eL, show (Nat.beq 1 1) = true from rfl, aB, hb, q1, true_and]
  exact hw
 | _ => exact (aC h).elim
theorem EX {x y : a9} {v : a9} {s s' : St} (h : (cN [x, y]).run s = .ok v s') (ho : bT s') : fL s s' ∧ Wp (cN [x, y]) s.heap.get s.next fun v' h' n' => v' = v ∧ h' = s.heap.get ∧ n' = s.next := by
 unfold cN at h
 obtain ⟨a, s1, h1, h2, ho1, _, _⟩ := M.aL h ho
 obtain ⟨b, s2, h3, h4, ho2, _, _⟩ := M.aL h2 ho
 obtain ⟨rfl, rfl⟩ := aD h4
 obtain ⟨e1, q1⟩ := yW h1 ho1
 obtain ⟨e2, q2⟩ := yW h3 ho2
 refine ⟨e1.trans e2, ?_⟩
 unfold cN
 refine q1 ?_
 rw [e1.heap] at q2
 exact q2 (aT.2 ⟨rfl, rfl, rfl⟩)
theorem yS {h : Hp} {n : Nat} {x y : a9} {a b : List UInt8} (hx : Bytes h x a) (hy : Bytes h y b) : Rd (cN [x, y]) h n (rid y ++ rid x) (.int .i64 (Lib.compareBytes a b)) := by
 have one : ∀ {v : a9} {l : List UInt8}, Bytes h v l → Rd (iE v) h n (rid v) l := fun {v l} hb => by
  cases hb with
  | aN => exact Rd.pure _
  | isl g off l hf =>
   simp only [iE, cC, mQ, cB, show (Nat.beq 1 1) = true from rfl]
   rw [jA g l.length off (l.map u8) (by simp) (fun j hj => by rw [hf j (by simpa using hj)]; simp)]
   refine Rd.bind (i1 := []) (i2 := []) (Rd.bind (i1 := []) (i2 := []) (Rd.ob (cO (Nat.le_refl _))) (Rd.pure _)) ?_
   refine Rd.bind (i1 := []) (i2 := []) (Rd.ob (rR l)) ?_
   rw [jV]
   exact Rd.pure _
  | sl id off cap c e l hh hs hc =>
   have := bG.pM (c := c) (off := off) (l := l.map u8) (by simpa using hs) (fun j hj => by rw [hc j (by simpa using hj)]; simp)
   simp only [List.length_map] at this
   simp only [iE, cC, mQ, cB, show (Nat.beq 1 1) = true from rfl]
   refine Rd.bind (i1 := [id]) (i2 := []) (a := l.map u8) (Rd.bind (i1 := [id]) (i2 := []) (Rd.get hh) ?_) ?_
   ·simp only [eE]
    refine Rd.bind (i1 := []) (i2 := []) (Rd.ob (cO hs)) ?_
    rw [this]
    exact Rd.pure _
   ·refine Rd.bind (i1 := []) (i2 := []) (Rd.ob (rR l)) ?_
    rw [jV]
    exact Rd.pure _
 unfold cN
 refine Rd.bind (i2 := rid y) (one hx) ?_
 exact Rd.bind (i1 := rid y) (i2 := []) (one hy) (Rd.pure _)
theorem GO {E : Env} (f : FuncId) : ∀ {l : List (uR E.P)} {args : List a9} {k : M a9}, (l.all fun x => !(x.f.beq f)) = true → qD E l f args k = k
 | [], _, _, _ => rfl
 | x :: l, _, _, h => by
  rw [List.all_cons, Bool.and_eq_true] at h
  unfold qD
  cases c : x.f.beq f with
  | true => rw [c] at h; cases h.1
  | false => exact GO f h.2
theorem OT {P : Program} {l : List (pC P)} (f : FuncId) (h : (l.all fun x => !(x.fn.beq f)) = true) : ∀ k, k9 l f k = true := fun k => by
 unfold k9
 rw [List.all_eq_true] at h ⊢
 intro x hx
 have := h x hx
 cases c : x.fn.beq f with
 | true => rw [c] at this; cases this
 | false => rfl
def jR : List (Nat × a9) → List a9
 | [] => []
 | x :: l => List.replicate x.1 x.2 ++ jR l
def rle : Bool → List Nat → List Bool
 | _, [] => []
 | b, n :: l => List.replicate n b ++ rle (!b) l
abbrev T := true
abbrev F := false
end Go.Am
set_option linter.unusedSimpArgs false
set_option linter.unusedVariables false
namespace Go.Am
open Go
variable {E : Env} {h : Hp} {n : Nat}
def fB (b : Nat) : List (a9 × a9) → List Ent
  | [] => []
  | e :: es => (e.1, e.2, b) :: fB (b + 1) es
theorem qI : ∀ (l : List (a9 × a9)) (b : Nat), (fB b l).length = l.length
  | [], _ => rfl
  | _ :: l, b => by simp [fB, qI l]
theorem yJ : ∀ (l : List (a9 × a9)) (b i : Nat), (fB b l)[i]? = l[i]?.map fun e => (e.1, e.2, b + i)
  | [], _, _ => by simp [fB]
  | e :: l, b, 0 => by simp [fB]
  | e :: l, b, i + 1 => by
    simp only [fB, List.getElem?_cons_succ, yJ l (b + 1) i]
    congr 1
    funext e
    rw [show b + 1 + i = b + (i + 1) by omega]
theorem yK : ∀ (l m : List (a9 × a9)) (b : Nat), fB b (l ++ m) = fB b l ++ fB (b + l.length) m
  | [], m, b => by simp [fB]
  | e :: l, m, b => by simp only [List.cons_append, fB, yK l m (b + 1), List.length_cons]; rw [show b + 1 + l.length = b + (l.length + 1) by omega]
theorem J7 : ∀ (l : List (a9 × a9)) (b i j : Nat), i < l.length → tC ((b + i : Nat) : Int) (fB b l) j = some (j + i)
  | [], _, i, _, h => by simp at h
  | e :: l, b, 0, j, _ => by simp [fB, tC]
  | e :: l, b, i + 1, j, h => by
    have : ((b : Int) == ((b + (i + 1) : Nat) : Int)) = false := by
      rw [beq_eq_false_iff_ne]; omega
    simp only [fB, tC, this]
    have := J7 l (b + 1) i (j + 1) (by simpa using h)
    rw [show b + (i + 1) = b + 1 + i by omega, this]
    congr 1; omega
theorem yI : ∀ (l : List (a9 × a9)) (b i : Nat) (v : a9), pO (fB b l) i v = fB b (l.modify i fun e => (e.1, v))
  | [], _, i, _ => by cases i <;> rfl
  | e :: l, b, 0, v => by simp [fB, pO]
  | e :: l, b, i + 1, v => by
    have := yI l (b + 1) i v
    simp only [pO] at this
    simp only [fB, pO, List.modify_succ_cons, this]
def dJ (p : a9 → Bool) : List (a9 × a9) → Nat → Option (Nat × a9)
  | [], _ => none
  | e :: es, i => if p e.1 then some (i, e.2) else dJ p es (i + 1)
theorem lF {kt : TypeId} {k : a9} {p : a9 → Bool} : ∀ (l : List (a9 × a9)) (b i : Nat), (∀ e ∈ l, bS E kt k e.1 = M.pure (p e.1)) → m8 E kt k (fB b l) i = M.pure (dJ p l i)
  | [], _, _, _ => rfl
  | e :: l, b, i, h => by
    simp only [fB, m8, h e (List.mem_cons_self ..), aB, dJ]
    cases p e.1 with
    | true => simp
    | false => simp only [Bool.false_eq_true, if_false]; exact lF l (b + 1) (i + 1) fun e he => h e (List.mem_cons_of_mem _ he)
theorem z6 {p : a9 → Bool} : ∀ {l : List (a9 × a9)} {i j : Nat} {v : a9}, dJ p l i = some (j, v) → ∃ q k, j = i + q ∧ l[q]? = some (k, v) ∧ p k = true
  | [], _, _, _, h => by simp [dJ] at h
  | e :: l, i, j, v, h => by
    simp only [dJ] at h
    split at h
    · rename_i c
      injection h with h; injection h with h1 h2
      subst h1; subst h2
      exact ⟨0, e.1, rfl, rfl, c⟩
    · obtain ⟨q, k, h1, h2, h3⟩ := z6 h
      exact ⟨q + 1, k, by omega, h2, h3⟩
section
variable {t kt et : TypeId} {k : a9} {p : a9 → Bool} {id b ck : Nat} {l : List (a9 × a9)}
def eP (h : Hp) (id b : Nat) (l : List (a9 × a9)) : Prop := h id = some (.map (fB b l) (b + l.length))
theorem eP.aM {h' : Hp} (m : eP h id b l) (hk : h' id = h id) : eP h' id b l := hk.trans m
theorem eP.lookup (m : eP h id b l) (ht : und E t = M.pure (.map kt et)) (hk : iX E 100 kt k = M.pure ()) (hp : ∀ e ∈ l, bS E kt k e.1 = M.pure (p e.1)) {z : a9} (hz : j8 E et = M.pure z) :
    Rd (iS E t (.map id) k false) h n [id] (((dJ p l 0).map (·.2)).getD z) := by
  simp only [iS, ht, aB, GZ, bind_assoc]
  have : Rd ((eQ id).bind fun a => (l8 (fun es _ => M.pure es) a).bind fun es => (iX E 100 kt k).bind fun _ => (m8 E kt k es 0).bind fun r => match r with
      | some p => M.pure (okV false p.2 true)
      | none => (j8 E et).bind fun z => M.pure (okV false z false)) h n ([] ++ [id]) (((dJ p l 0).map (·.2)).getD z) := by
    refine Rd.bind (Rd.get m) ?_
    simp only [l8, aB, hk, lF l b 0 hp]
    cases dJ p l 0 with
    | none => simp only [hz, aB]; exact Rd.pure _
    | some x => exact Rd.pure _
  exact this
theorem eP.KY (m : eP h id b l) (ht : und E t = M.pure (.map kt et)) (hk : iX E 100 kt k = M.pure ()) (hp : ∀ e ∈ l, bS E kt k e.1 = M.pure (p e.1)) {i : Nat} {v : a9} (ha : dJ p l 0 = some (i, v)) (hs : ∀ e, l[i]? = some e → jK e.1 k = true) :
    Wr (iR E t (.map id) k) h n [id] [id] (a9.tup [v, .int .i64 ((b + i : Nat) : Int)]) h := by
  have hu : Go.Am.upd h id (some (.map (fB b l) (b + l.length))) = h := jI m
  obtain ⟨q, kk, e1, e2, e3⟩ := z6 ha
  rw [Nat.zero_add] at e1
  subst e1
  have key : Wr ((eQ id).bind (l8 fun es ck => (iX E 100 kt k).bind fun _ => (m8 E kt k es 0).bind fun r => match r with
        | some p => (fV "entry" es[p.1]?).bind fun e => match jK e.1 k with
          | true => (jW id (.map es ck)).bind fun _ => M.pure (a9.tup [p.2, .int .i64 e.2.2])
          | false => bD "a key that is not the same bit by bit"
        | none => (j8 E et).bind fun z => (jW id (.map (es ++ [(k, z, ck)]) (ck + 1))).bind fun _ => M.pure (a9.tup [z, .int .i64 ck]))) h n ([] ++ [id]) [id] (a9.tup [v, .int .i64 ((b + i : Nat) : Int)]) (Go.Am.upd h id (some (.map (fB b l) (b + l.length)))) := by
    refine Wr.bind (Rd.get m) ?_
    simp only [l8, hk, aB, lF l b 0 hp, ha, yJ, e2, Option.map_some, fV, hs _ e2]
    exact (Wr.set m).ret
  rw [hu] at key
  simp only [iR, ht, aB]
  exact key
theorem eP.KZ (m : eP h id b l) (ht : und E t = M.pure (.map kt et)) (hk : iX E 100 kt k = M.pure ()) (hp : ∀ e ∈ l, bS E kt k e.1 = M.pure (p e.1)) (ha : dJ p l 0 = none) {z : a9} (hz : j8 E et = M.pure z) :
    ∃ h2, Wr (iR E t (.map id) k) h n [id] [id] (a9.tup [z, .int .i64 ((b + l.length : Nat) : Int)]) h2 ∧ eP h2 id b (l ++ [(k, z)]) ∧ ∀ j, j ≠ id → h2 j = h j := by
  refine ⟨Go.Am.upd h id (some (.map (fB b l ++ [(k, z, b + l.length)]) (b + l.length + 1))), ?_, ?_, fun j hj => aH _ _ hj⟩
  · have key : Wr ((eQ id).bind (l8 fun es ck => (iX E 100 kt k).bind fun _ => (m8 E kt k es 0).bind fun r => match r with
        | some p => (fV "entry" es[p.1]?).bind fun e => match jK e.1 k with
          | true => (jW id (.map es ck)).bind fun _ => M.pure (a9.tup [p.2, .int .i64 e.2.2])
          | false => bD "a key that is not the same bit by bit"
        | none => (j8 E et).bind fun z => (jW id (.map (es ++ [(k, z, ck)]) (ck + 1))).bind fun _ => M.pure (a9.tup [z, .int .i64 ck]))) h n ([] ++ [id]) [id] (a9.tup [z, .int .i64 ((b + l.length : Nat) : Int)]) (Go.Am.upd h id (some (.map (fB b l ++ [(k, z, b + l.length)]) (b + l.length + 1)))) := by
      refine Wr.bind (Rd.get m) ?_
      simp only [l8, hk, aB, lF l b 0 hp, ha, hz]
      exact (Wr.set m).ret
    simp only [iR, ht, aB]
    exact key
  · unfold eP
    rw [aO, yK, List.length_append]
    rfl
theorem eP.store (m : eP h id b l) {i : Nat} (hi : i < l.length) {v : a9} :
    ∃ h2, Wr (gO (.map id) (.int .i64 ((b + i : Nat) : Int)) v) h n [id] [id] undef h2 ∧ eP h2 id b (l.modify i fun e => (e.1, v)) ∧ ∀ j, j ≠ id → h2 j = h j := by
  refine ⟨Go.Am.upd h id (some (.map (pO (fB b l) i v) (b + l.length))), ?_, ?_, fun j hj => aH _ _ hj⟩
  · show Wr _ h n ([] ++ [id]) [id] undef _
    simp only [gO]
    refine Wr.bind (Rd.get m) ?_
    simp only [l8, fJ, J7 l b i 0 hi, fV, aB, Nat.zero_add]
    exact (Wr.set m).ret
  · unfold eP
    rw [aO, yI, List.length_modify]
theorem eP.clear (m : eP h id b l) {ts : List TypeId} {t0 : TypeId} (ht : und E t0 = M.pure (.map kt et)) : ∃ h2, Wr (qR E (t0 :: ts) (.map id)) h n [id] [id] (a9.tup []) h2 ∧ eP h2 id (b + l.length) [] ∧ ∀ j, j ≠ id → h2 j = h j := by
  refine ⟨Go.Am.upd h id (some (.map [] (b + l.length))), ?_, aO _ _ _, fun j hj => aH _ _ hj⟩
  have : Wr ((eQ id).bind (l8 fun _ ck => (jW id (.map [] ck)).bind fun _ => M.pure (a9.tup []))) h n ([] ++ [id]) [id] (a9.tup []) (Go.Am.upd h id (some (.map [] (b + l.length)))) := by
    refine Wr.bind (Rd.get m) ?_
    simp only [l8]
    exact (Wr.set m).ret
  simp only [qR, ht, aB]
  exact this
end
end Go.Am
set_option linter.unusedSimpArgs false
set_option linter.unusedVariables false
namespace Go.Am
open Go
variable {E : Env} {h : Hp} {n : Nat}
theorem Rd.wr {m : M a9} {ids : List Nat} {v : a9} (r : Rd m h n ids v) : Wr m h n ids [] v h := by
 refine ⟨fun s hs => ?_⟩
 obtain ⟨s', o, e, a, b, c, d, w, g, q⟩ := r.r s hs
 exact ⟨s', o, e, by rw [a, hs.hp], b, c, d, w, g, q⟩
def Ex (m : M a9) (h : Hp) (n : Nat) (v : a9) (h' : Hp) : Prop := ∃ rs ws, Wr m h n rs ws v h'
theorem Ex.rd {m : M a9} {ids : List Nat} {v : a9} (r : Rd m h n ids v) : Ex m h n v h := ⟨_, _, r.wr⟩
theorem Ex.wr {m : M a9} {rs ws : List Nat} {v : a9} {h' : Hp} (r : Wr m h n rs ws v h') : Ex m h n v h' := ⟨_, _, r⟩
theorem Ex.pure {v : a9} : Ex (M.pure v) h n v h := .rd (.pure v)
theorem kR {rec : Rec} {ops : List Oper} {o : Oper} {tm : List a9} (hg : o.guard = none) : opV E rec ops o tm = execOp E rec tm o.op := by
 unfold opV wanted
 rw [hg]; rfl
section
variable {rec : Rec} {ops : Array Oper} {J : Array Bool → List a9 → Hp → Prop}
theorem NW (hrec : oC E.P rec)
  (hs : ∀ listed tm h, listed.size = ops.size → J listed tm h → ∀ i o, ops[i]? = some o → listed.getD i false = false → (∀ e ∈ o.after, Region.binds .any e = true → listed.getD e.on false = true) →
   ∃ v h', Ex (opV E rec ops.toList o tm) h n v h' ∧ J (listed.setIfInBounds i true) (bP tm o.dst v) h')
  (hback : uN 0 ops.toList = true)
  {ρ₀ : Ren} {m : Mem} {w₀ : World} {a₀ : Act} {ro : Option Nat} {nn : Nat} {Q : Exit → Act → World → Prop}
  (hQ : ∀ listed tm h a w ρ, (∀ k, k < ops.size → listed.getD k false = true) → J listed tm h → Rel E.P ρ m h w → RL ρ m tm a.tmps → gP ρ₀ ρ → (∀ id, ρ id ≠ none → ρ₀ id ≠ none) → Fr w₀ w → a.defers = a₀.defers → Q .normal a w) :
  ∀ (fuel : Nat) (listed : Array Bool), listed.size = ops.size → (listed.toList.filter (!·)).length ≤ fuel → ∀ a w ρ h tm, J listed tm h → Rel E.P ρ m h w → RL ρ m tm a.tmps → gP ρ₀ ρ → (∀ id, ρ id ≠ none → ρ₀ id ≠ none) → Fr w₀ w → a.defers = a₀.defers →
   wpAnyIn (Fw ro) nn E.P .any ops Q fuel listed a w := by
 intro fuel
 have lst : ∀ (listed : Array Bool), listed.size = ops.size → ∀ k, listed.getD k true = false ↔ (k < ops.size ∧ ¬ listed.getD k false = true) := by
  intro listed hsz k
  by_cases hk : k < ops.size
  ·have : k < listed.size := by omega
   simp [Array.getD, this, hk]
  ·have : ¬ k < listed.size := by omega
   simp [Array.getD, this, hk]
 have done : ∀ (listed : Array Bool), listed.size = ops.size → Region.ready .any ops listed = [] → ∀ k, k < ops.size → listed.getD k false = true := by
  intro listed hsz hr k
  induction k using Nat.strongRecOn with
  | _ k ih =>
   intro hk
   by_cases hl : listed.getD k false = true
   ·exact hl
   ·have ho : ops[k]? = some ops[k] := Array.getElem?_eq_getElem hk
    have : k ∈ Region.ready .any ops listed := mem_ready.2 ⟨(lst listed hsz k).2 ⟨hk, hl⟩, ops[k], ho, fun e he hb => by
     have := tD ops.toList 0 hback k ops[k] (by rw [Array.getElem?_toList]; exact ho) e he hb
     exact ih e.on (by omega) (by omega)⟩
    rw [hr] at this
    cases this
 induction fuel with
 | zero =>
  intro listed hsz hc a w ρ h tm hj hr ht hle hnew hfr hd
  have hr' : Region.ready .any ops listed = [] := by
   cases hr' : Region.ready .any ops listed with
   | nil => rfl
   | cons j l =>
    have hj : j ∈ Region.ready .any ops listed := by rw [hr']; exact List.mem_cons_self
    obtain ⟨h1, o, h2, _⟩ := mem_ready.1 hj
    have hj' := (lst listed hsz j).1 h1
    have hlt : j < listed.size := by omega
    have := sY listed.toList (by omega) j listed[j] (by simp [hlt])
    exfalso
    apply hj'.2
    simp [Array.getD, hlt, this]
  exact ⟨hr', hQ listed tm h a w ρ (done listed hsz hr') hj hr ht hle hnew hfr hd⟩
 | succ fuel ih =>
  intro listed hsz hc a w ρ h tm hj hr ht hle hnew hfr hd
  refine ⟨fun hr' => hQ listed tm h a w ρ (done listed hsz hr') hj hr ht hle hnew hfr hd, fun i hi => ?_⟩
  obtain ⟨h1, o, h2, h3⟩ := mem_ready.1 hi
  have hi' := (lst listed hsz i).1 h1
  unfold wpOpIn
  rw [h2]
  obtain ⟨v, h', ⟨rs, ws, hwr⟩, hj'⟩ := hs listed tm h hsz hj i o h2 (by simpa using hi'.2) h3
  obtain ⟨s', ob, e1, e2, e3, e4, e5, e6, e7, e8⟩ := hwr.r (at0 h n) (mE h n)
  have hok : bT s' := by unfold bT; rw [e7]; simpa [at0] using e8
  have hnx : s'.next = n := e3
  refine BW hrec e1 hok (s := at0 h n) hr (fun id hid => by
   have h1 : n ≤ id := hid.1
   have h2 : id < s'.next := hid.2
   omega) ht (fun x w' ρ' hpost hx => ?_)
  refine ih (listed.setIfInBounds i true) (by simpa using hsz) ?_ _ w' ρ' h' (bP tm o.dst v) hj' (by rw [← e2]; exact hpost.rel) (rA (ht.mono hpost.ren hpost.mle) o.dst hx) (fun id r q => hpost.ren id r (hle id r q)) (fun id q => ?_) (hfr.trans hpost.fr) (by rw [Act.lS, hd])
  ·have hlt : i < listed.size := by omega
   have hf : listed.toList[i]? = some false := by
    have : listed.getD i true = listed[i] := by simp [Array.getD, hlt]
    rw [this] at h1
    simp [hlt, h1]
   have := vL listed.toList i hf
   simp only [Array.toList_setIfInBounds]
   omega
  ·rcases hpost.new id q with q | q
   ·exact hnew id q
   ·have h1 : n ≤ id := q.1
    have h2 : id < s'.next := q.2
    omega
end
set_option linter.defProp false
def gE := (And.intro @execOp.eq_1 (And.intro @execOp.eq_2 (And.intro @execOp.eq_3 (And.intro @execOp.eq_4 (And.intro @execOp.eq_5 (And.intro @execOp.eq_6 (And.intro @execOp.eq_7 (And.intro @execOp.eq_8 (And.intro @execOp.eq_9 (And.intro @execOp.eq_10 (And.intro @execOp.eq_11 (And.intro @execOp.eq_12 (And.intro @execOp.eq_13 (And.intro @execOp.eq_14 (And.intro @execOp.eq_15 (And.intro @execOp.eq_16 (And.intro @execOp.eq_17 (And.intro @execOp.eq_18 (And.intro @execOp.eq_19 (And.intro @execOp.eq_20 (And.intro @execOp.eq_21 (And.intro @execOp.eq_22 (And.intro @execOp.eq_23 (And.intro @execOp.eq_24 (And.intro @execOp.eq_25 (And.intro @execOp.eq_26 (And.intro @execOp.eq_27 (And.intro @execOp.eq_28 (And.intro @execOp.eq_29 (And.intro @execOp.eq_30 (And.intro @execOp.eq_31 (And.intro @execOp.eq_32 (And.intro @execOp.eq_33 (And.intro @execOp.eq_34 (And.intro @opd.eq_1 (And.intro @opd.eq_2 (And.intro @opd.eq_3 (And.intro @opd.eq_4 (And.intro @fH.eq_1 (And.intro @fH.eq_2 (And.intro @ofValue.eq_1 (And.intro @ofValue.eq_2 (And.intro @ofValue.eq_3 (And.intro @ofValue.eq_4 (And.intro @ofValue.eq_5 (And.intro @ofValue.eq_6 (And.intro @ofValue.eq_7 (And.intro @ofValue.eq_8 (And.intro @ofValue.eq_9 (And.intro @ofValue.eq_10 (And.intro @ofValue.eq_11 (And.intro @xU.eq_1 (And.intro @ofList.eq_1 (And.intro @ofList.eq_2 (And.intro @zK.eq_1 (And.intro @zK.eq_2 (And.intro @bP.eq_1 (And.intro @bP.eq_2 (And.intro @put.eq_1 (And.intro @put.eq_2 (And.intro @put.eq_3 (And.intro @nth.eq_1 (And.intro @nth.eq_2 (And.intro @nth.eq_3 (And.intro @aF.eq_1 (And.intro @aF.eq_2 (And.intro @aF.eq_3 (And.intro @aF.eq_4 (And.intro @dS.eq_1 (And.intro @rZ.eq_1 (And.intro @rZ.eq_2 (And.intro @rW.eq_1 (And.intro @rW.eq_2 (And.intro @A2.eq_1 (And.intro @A2.eq_2 (And.intro @und.eq_1 (And.intro @sizeOf.eq_1 (And.intro @j8.eq_1 (And.intro @intOp.eq_1 (And.intro @intOp.eq_2 (And.intro @intOp.eq_3 (And.intro @intOp.eq_4 (And.intro @intOp.eq_5 (And.intro @intOp.eq_6 (And.intro @intOp.eq_7 (And.intro @intOp.eq_8 (And.intro @intOp.eq_9 (And.intro @intOp.eq_10 (And.intro @intOp.eq_11 (And.intro @intOp.eq_12 (And.intro @intOp.eq_13 (And.intro @intOp.eq_14 (And.intro @intOp.eq_15 (And.intro @intOp.eq_16 (And.intro @intOp.eq_17 (And.intro @fC.eq_1 (And.intro @fC.eq_2 (And.intro @fG.eq_1 (And.intro @fG.eq_2 (And.intro @fG.eq_3 (And.intro @nD.eq_1 (And.intro @nD.eq_2 (And.intro @fJ.eq_1 (And.intro @fJ.eq_2 (And.intro @branch.eq_1 (And.intro @branch.eq_2 (And.intro @branch.eq_3 (And.intro @nilCheck.eq_1 (And.intro @nilCheck.eq_2 (And.intro @nilCheck.eq_3 (And.intro @nilCheck.eq_4 (And.intro @nilCheck.eq_5 (And.intro @nilCheck.eq_6 (And.intro @extract.eq_1 (And.intro @extract.eq_2 (And.intro @fV.eq_1 (And.intro @fV.eq_2 (And.intro @ended.eq_1 (And.intro @dK.eq_1 (And.intro @dK.eq_2 (And.intro @dK.eq_3 (And.intro @dT.eq_1 (And.intro @dT.eq_2 (And.intro @fieldAddr.eq_1 (And.intro @field.eq_1 (And.intro @bI (And.intro @qL (And.intro @XC (And.intro @eB (And.intro @List.getElem?_cons_succ.{0} (And.intro @List.getElem?_cons_zero.{0} (And.intro @List.append_eq.{0} (And.intro @List.cons_append.{0} (And.intro @List.nil_append.{0} (And.intro @List.append_nil.{0} (And.intro @List.length_cons.{0} (And.intro @List.length_nil.{0} (And.intro @not_true_eq_false (And.intro @not_false_eq_true (And.intro @decide_true (And.intro @decide_false (And.intro @Bool.not_true (And.intro @Bool.not_false (And.intro @Bool.and_true (And.intro @Bool.true_and (And.intro @Bool.and_false (And.intro @Bool.false_and (And.intro @Bool.or_true (And.intro @Bool.true_or (And.intro @Bool.or_false (And.intro @Bool.false_or (And.intro @and_true (And.intro @true_and (And.intro @and_self (And.intro @nc0 (And.intro @nc1 (And.intro @rG (And.intro @CB (And.intro @SQ (And.intro @Nat.zero_add (And.intro @Nat.add_zero (And.intro @Int.toNat_zero (And.intro @Nat.zero_mul (And.intro @aT (And.intro @beq_self_eq_true.{0} (And.intro @bne_self_eq_false.{0} (And.intro @mV (And.intro @oQ (And.intro @Q7 (And.intro @KV (And.intro @Q6 (And.intro @aa8 (And.intro @ab1 (And.intro @aa9 (And.intro @ab0 (And.intro @aa7 (And.intro @U6 (And.intro @aa6 (And.intro @qF @Q5)))))))))))))))))))))))))))))))))))))))))))))))))))))))))))))))))))))))))))))))))))))))))))))))))))))))))))))))))))))))))))))))))))))))))))))))))))))))))))))))))))))))))))))))))))
def gF := (And.intro @yU (And.intro @yT (And.intro @QW (And.intro @QV (And.intro @QS (And.intro @QR (And.intro @R0 (And.intro @QY (And.intro @QQ (And.intro @QX (And.intro @QP (And.intro @QT (And.intro @QZ (And.intro @QU (And.intro @List.all_cons.{0} (And.intro @List.all_nil.{0} (And.intro @Bool.not_false (And.intro @Bool.true_or (And.intro @Bool.and_true @Bool.true_and)))))))))))))))))))
end Go.Am
set_option maxRecDepth 100000
set_option linter.defProp false
namespace Go.Am.Ytlgebaofkolkoaa.Ins
open Go Go.Am Go.Proofs
noncomputable def ty2 : TE Try.prog := ⟨2, ⟨Try.t2.desc, 1, 8, .int .i64 (0)⟩, ⟨⟨Try.t2, _, rfl, rfl, rfl, rfl, rfl⟩, rfl, rfl, Try.underlying2⟩⟩
noncomputable def ty3 : TE Try.prog := ⟨3, ⟨Try.t3.desc, 1, 8, .int .i64 (0)⟩, ⟨⟨Try.t3, _, rfl, rfl, rfl, rfl, rfl⟩, rfl, rfl, Try.underlying3⟩⟩
noncomputable def ty4 : TE Try.prog := ⟨4, ⟨Try.t4.desc, 1, 1, .bool false⟩, ⟨⟨Try.t4, _, rfl, rfl, rfl, rfl, rfl⟩, rfl, rfl, Try.underlying4⟩⟩
noncomputable def ty5 : TE Try.prog := ⟨5, ⟨Try.t5.desc, 1, 1, .int .u8 (0)⟩, ⟨⟨Try.t5, _, rfl, rfl, rfl, rfl, rfl⟩, rfl, rfl, Try.underlying5⟩⟩
noncomputable def ty9 : TE Try.prog := ⟨9, ⟨Try.t9.desc, 1, 16, .str []⟩, ⟨⟨Try.t9, _, rfl, rfl, rfl, rfl, rfl⟩, rfl, rfl, Try.underlying9⟩⟩
noncomputable def WG : TE Try.prog := ⟨12, ⟨Try.t12.desc, 1, 8, .int .u64 (0)⟩, ⟨⟨Try.t12, _, rfl, rfl, rfl, rfl, rfl⟩, rfl, rfl, Try.underlying12⟩⟩
noncomputable def WE : TE Try.prog := ⟨17, ⟨Try.t17.desc, 1, 8, .dG⟩, ⟨⟨Try.t17, _, rfl, rfl, rfl, rfl, rfl⟩, rfl, rfl, Try.underlying17⟩⟩
noncomputable def WD : TE Try.prog := ⟨21, ⟨Try.t21.desc, 1, 4, .int .i32 (0)⟩, ⟨⟨Try.t21, _, rfl, rfl, rfl, rfl, rfl⟩, rfl, rfl, Try.underlying21⟩⟩
noncomputable def WC : TE Try.prog := ⟨22, ⟨Try.t22.desc, 1, 8, .dG⟩, ⟨⟨Try.t22, _, rfl, rfl, rfl, rfl, rfl⟩, rfl, rfl, Try.underlying22⟩⟩
noncomputable def WB : TE Try.prog := ⟨24, ⟨Try.t24.desc, 32, 32, .agg (jR [(32, .int .u8 (0))])⟩, ⟨⟨Try.t24, _, rfl, rfl, rfl, rfl, rfl⟩, rfl, rfl, Try.underlying24⟩⟩
noncomputable def WA : TE Try.prog := ⟨25, ⟨Try.t24.desc, 32, 32, .agg (jR [(32, .int .u8 (0))])⟩, ⟨⟨Try.t25, _, rfl, rfl, rfl, rfl, rfl⟩, rfl, rfl, Try.underlying25⟩⟩
noncomputable def W9 : TE Try.prog := ⟨26, ⟨Try.t26.desc, 1, 4, .int .u32 (0)⟩, ⟨⟨Try.t26, _, rfl, rfl, rfl, rfl, rfl⟩, rfl, rfl, Try.underlying26⟩⟩
noncomputable def W8 : TE Try.prog := ⟨27, ⟨Try.t27.desc, 33, 36, .agg (jR [(32, .int .u8 (0)), (1, .int .u32 (0))])⟩, ⟨⟨Try.t27, _, rfl, rfl, rfl, rfl, rfl⟩, rfl, rfl, Try.underlying27⟩⟩
noncomputable def JI : TE Try.prog := ⟨28, ⟨Try.t27.desc, 33, 36, .agg (jR [(32, .int .u8 (0)), (1, .int .u32 (0))])⟩, ⟨⟨Try.t28, _, rfl, rfl, rfl, rfl, rfl⟩, rfl, rfl, Try.underlying28⟩⟩
noncomputable def W7 : TE Try.prog := ⟨29, ⟨Try.t29.desc, 1, 24, .aN⟩, ⟨⟨Try.t29, _, rfl, rfl, rfl, rfl, rfl⟩, rfl, rfl, Try.underlying29⟩⟩
noncomputable def W6 : TE Try.prog := ⟨30, ⟨Try.t30.desc, 70, 128, .agg (jR [(32, .int .u8 (0)), (1, .int .u32 (0)), (2, .int .i64 (0)), (1, .aN), (1, .bool false), (1, .int .i64 (0)), (32, .int .u8 (0))])⟩, ⟨⟨Try.t30, _, rfl, rfl, rfl, rfl, rfl⟩, rfl, rfl, Try.underlying30⟩⟩
noncomputable def eK : TE Try.prog := ⟨31, ⟨Try.t30.desc, 70, 128, .agg (jR [(32, .int .u8 (0)), (1, .int .u32 (0)), (2, .int .i64 (0)), (1, .aN), (1, .bool false), (1, .int .i64 (0)), (32, .int .u8 (0))])⟩, ⟨⟨Try.t31, _, rfl, rfl, rfl, rfl, rfl⟩, rfl, rfl, Try.underlying31⟩⟩
noncomputable def W5 : TE Try.prog := ⟨32, ⟨Try.t3.desc, 1, 8, .int .i64 (0)⟩, ⟨⟨Try.t32, _, rfl, rfl, rfl, rfl, rfl⟩, rfl, rfl, Try.underlying32⟩⟩
noncomputable def W4 : TE Try.prog := ⟨36, ⟨Try.t36.desc, 1, 24, .aN⟩, ⟨⟨Try.t36, _, rfl, rfl, rfl, rfl, rfl⟩, rfl, rfl, Try.underlying36⟩⟩
noncomputable def W3 : TE Try.prog := ⟨40, ⟨Try.t40.desc, 2, 32, .agg [.aN, .int .i64 (0)]⟩, ⟨⟨Try.t40, _, rfl, rfl, rfl, rfl, rfl⟩, rfl, rfl, Try.underlying40⟩⟩
noncomputable def SM : TE Try.prog := ⟨41, ⟨Try.t40.desc, 2, 32, .agg [.aN, .int .i64 (0)]⟩, ⟨⟨Try.t41, _, rfl, rfl, rfl, rfl, rfl⟩, rfl, rfl, Try.underlying41⟩⟩
noncomputable def W2 : TE Try.prog := ⟨43, ⟨Try.t43.desc, 1, 24, .aN⟩, ⟨⟨Try.t43, _, rfl, rfl, rfl, rfl, rfl⟩, rfl, rfl, Try.underlying43⟩⟩
noncomputable def W1 : TE Try.prog := ⟨44, ⟨Try.t44.desc, 1, 24, .aN⟩, ⟨⟨Try.t44, _, rfl, rfl, rfl, rfl, rfl⟩, rfl, rfl, Try.underlying44⟩⟩
noncomputable def W0 : TE Try.prog := ⟨45, ⟨Try.t45.desc, 37, 104, .agg (jR [(1, .int .i64 (0)), (32, .int .u8 (0)), (2, .aN), (2, .int .i64 (0))])⟩, ⟨⟨Try.t45, _, rfl, rfl, rfl, rfl, rfl⟩, rfl, rfl, Try.underlying45⟩⟩
noncomputable def VZ : TE Try.prog := ⟨46, ⟨Try.t45.desc, 37, 104, .agg (jR [(1, .int .i64 (0)), (32, .int .u8 (0)), (2, .aN), (2, .int .i64 (0))])⟩, ⟨⟨Try.t46, _, rfl, rfl, rfl, rfl, rfl⟩, rfl, rfl, Try.underlying46⟩⟩
noncomputable def VY : TE Try.prog := ⟨47, ⟨Try.t47.desc, 65, 68, .agg (jR [(32, .int .u8 (0)), (1, .int .u32 (0)), (32, .int .u8 (0))])⟩, ⟨⟨Try.t47, _, rfl, rfl, rfl, rfl, rfl⟩, rfl, rfl, Try.underlying47⟩⟩
noncomputable def BD : TE Try.prog := ⟨48, ⟨Try.t47.desc, 65, 68, .agg (jR [(32, .int .u8 (0)), (1, .int .u32 (0)), (32, .int .u8 (0))])⟩, ⟨⟨Try.t48, _, rfl, rfl, rfl, rfl, rfl⟩, rfl, rfl, Try.underlying48⟩⟩
noncomputable def VX : TE Try.prog := ⟨56, ⟨Try.t56.desc, 1, 8, .dG⟩, ⟨⟨Try.t56, _, rfl, rfl, rfl, rfl, rfl⟩, rfl, rfl, Try.underlying56⟩⟩
noncomputable def SK : TE Try.prog := ⟨57, ⟨Try.t57.desc, 1, 24, .aN⟩, ⟨⟨Try.t57, _, rfl, rfl, rfl, rfl, rfl⟩, rfl, rfl, Try.underlying57⟩⟩
noncomputable def VW : TE Try.prog := ⟨58, ⟨Try.t58.desc, 2, 32, .agg [.dG, .aN]⟩, ⟨⟨Try.t58, _, rfl, rfl, rfl, rfl, rfl⟩, rfl, rfl, Try.underlying58⟩⟩
noncomputable def VV : TE Try.prog := ⟨59, ⟨Try.t58.desc, 2, 32, .agg [.dG, .aN]⟩, ⟨⟨Try.t59, _, rfl, rfl, rfl, rfl, rfl⟩, rfl, rfl, Try.underlying59⟩⟩
noncomputable def VU : TE Try.prog := ⟨60, ⟨Try.t60.desc, 37, 72, .agg (jR [(1, .int .i64 (0)), (32, .int .u8 (0)), (4, .int .i64 (0))])⟩, ⟨⟨Try.t60, _, rfl, rfl, rfl, rfl, rfl⟩, rfl, rfl, Try.underlying60⟩⟩
noncomputable def uV : TE Try.prog := ⟨61, ⟨Try.t60.desc, 37, 72, .agg (jR [(1, .int .i64 (0)), (32, .int .u8 (0)), (4, .int .i64 (0))])⟩, ⟨⟨Try.t61, _, rfl, rfl, rfl, rfl, rfl⟩, rfl, rfl, Try.underlying61⟩⟩
noncomputable def VT : TE Try.prog := ⟨95, ⟨Try.t95.desc, 1, 24, .aN⟩, ⟨⟨Try.t95, _, rfl, rfl, rfl, rfl, rfl⟩, rfl, rfl, Try.underlying95⟩⟩
noncomputable def VS : TE Try.prog := ⟨96, ⟨Try.t96.desc, 1, 8, .cF⟩, ⟨⟨Try.t96, _, rfl, rfl, rfl, rfl, rfl⟩, rfl, rfl, Try.underlying96⟩⟩
noncomputable def VR : TE Try.prog := ⟨97, ⟨Try.t97.desc, 2, 32, .agg [.aN, .cF]⟩, ⟨⟨Try.t97, _, rfl, rfl, rfl, rfl, rfl⟩, rfl, rfl, Try.underlying97⟩⟩
noncomputable def VQ : TE Try.prog := ⟨98, ⟨Try.t97.desc, 2, 32, .agg [.aN, .cF]⟩, ⟨⟨Try.t98, _, rfl, rfl, rfl, rfl, rfl⟩, rfl, rfl, Try.underlying98⟩⟩
noncomputable def VP : TE Try.prog := ⟨99, ⟨Try.t99.desc, 5, 72, .agg [.bool false, .aN, .cF, .aN, .cF]⟩, ⟨⟨Try.t99, _, rfl, rfl, rfl, rfl, rfl⟩, rfl, rfl, Try.underlying99⟩⟩
noncomputable def MC : TE Try.prog := ⟨100, ⟨Try.t99.desc, 5, 72, .agg [.bool false, .aN, .cF, .aN, .cF]⟩, ⟨⟨Try.t100, _, rfl, rfl, rfl, rfl, rfl⟩, rfl, rfl, Try.underlying100⟩⟩
noncomputable def MB : TE Try.prog := ⟨104, ⟨Try.t104.desc, 40, 128, .agg (jR [(2, .int .i64 (0)), (32, .int .u8 (0)), (2, .aN), (2, .int .i64 (0)), (1, .bool false), (1, .int .i64 (0))])⟩, ⟨⟨Try.t104, _, rfl, rfl, rfl, rfl, rfl⟩, rfl, rfl, Try.underlying104⟩⟩
noncomputable def MA : TE Try.prog := ⟨115, ⟨Try.t115.desc, 1, 8, .kZ⟩, ⟨⟨Try.t115, _, rfl, rfl, rfl, rfl, rfl⟩, rfl, rfl, Try.underlying115⟩⟩
noncomputable def oY : TE Try.prog := ⟨128, ⟨Try.t128.desc, 1, 8, .dG⟩, ⟨⟨Try.t128, _, rfl, rfl, rfl, rfl, rfl⟩, rfl, rfl, Try.underlying128⟩⟩
noncomputable def M9 : TE Try.prog := ⟨147, ⟨Try.t147.desc, 1, 24, .aN⟩, ⟨⟨Try.t147, _, rfl, rfl, rfl, rfl, rfl⟩, rfl, rfl, Try.underlying147⟩⟩
noncomputable def M8 : TE Try.prog := ⟨161, ⟨Try.t161.desc, 1, 8, .kZ⟩, ⟨⟨Try.t161, _, rfl, rfl, rfl, rfl, rfl⟩, rfl, rfl, Try.underlying161⟩⟩
noncomputable def M7 : TE Try.prog := ⟨176, ⟨Try.t5.desc, 1, 1, .int .u8 (0)⟩, ⟨⟨Try.t176, _, rfl, rfl, rfl, rfl, rfl⟩, rfl, rfl, Try.underlying176⟩⟩
noncomputable def M4 : TE Try.prog := ⟨177, ⟨Try.t5.desc, 1, 1, .int .u8 (0)⟩, ⟨⟨Try.t177, _, rfl, rfl, rfl, rfl, rfl⟩, rfl, rfl, Try.underlying177⟩⟩
noncomputable def M3 : TE Try.prog := ⟨178, ⟨Try.t178.desc, 1, 8, .cF⟩, ⟨⟨Try.t178, _, rfl, rfl, rfl, rfl, rfl⟩, rfl, rfl, Try.underlying178⟩⟩
noncomputable def LZ : TE Try.prog := ⟨179, ⟨Try.t179.desc, 1, 8, .dG⟩, ⟨⟨Try.t179, _, rfl, rfl, rfl, rfl, rfl⟩, rfl, rfl, Try.underlying179⟩⟩
noncomputable def LY : TE Try.prog := ⟨180, ⟨Try.t21.desc, 1, 4, .int .i32 (0)⟩, ⟨⟨Try.t180, _, rfl, rfl, rfl, rfl, rfl⟩, rfl, rfl, Try.underlying180⟩⟩
noncomputable def LX : TE Try.prog := ⟨181, ⟨Try.t21.desc, 1, 4, .int .i32 (0)⟩, ⟨⟨Try.t181, _, rfl, rfl, rfl, rfl, rfl⟩, rfl, rfl, Try.underlying181⟩⟩
noncomputable def LW : TE Try.prog := ⟨182, ⟨Try.t182.desc, 11, 48, .agg [.int .u64 (0), .int .u64 (0), .int .u32 (0), .int .u8 (0), .int .u8 (0), .int .u8 (0), .int .u8 (0), .cF, .dG, .int .i32 (0), .int .i32 (0)]⟩, ⟨⟨Try.t182, _, rfl, rfl, rfl, rfl, rfl⟩, rfl, rfl, Try.underlying182⟩⟩
noncomputable def LV : TE Try.prog := ⟨183, ⟨Try.t182.desc, 11, 48, .agg [.int .u64 (0), .int .u64 (0), .int .u32 (0), .int .u8 (0), .int .u8 (0), .int .u8 (0), .int .u8 (0), .cF, .dG, .int .i32 (0), .int .i32 (0)]⟩, ⟨⟨Try.t183, _, rfl, rfl, rfl, rfl, rfl⟩, rfl, rfl, Try.underlying183⟩⟩
noncomputable def KR : FE Try.prog := ⟨17, ⟨Try.f17.body.getD .skip, 85, [.tmp 6, .tmp 7], some (rle true [3, 3, 2, 1, 2, 1, 6, 7, 1, 7, 4, 19, 1, 1, 1, 1, 1, 11, 1, 12])⟩, ⟨⟨Try.f17, Try.func17, rfl, rfl, rfl⟩, Try.call17⟩⟩
noncomputable def ZP : FE Try.prog := ⟨20, ⟨Try.f20.body.getD .skip, 11, [.tmp 2], some (rle true [1, 1, 1, 1, 1, 6])⟩, ⟨⟨Try.f20, Try.func20, rfl, rfl, rfl⟩, Try.call20⟩⟩
noncomputable def yA : FE Try.prog := ⟨63, ⟨Try.f63.body.getD .skip, 18, [.tmp 2], some (rle true [1, 1, 2, 1, 5, 4, 1, 3])⟩, ⟨⟨Try.f63, Try.func63, rfl, rfl, rfl⟩, Try.call63⟩⟩
noncomputable def ED : FE Try.prog := ⟨64, ⟨Try.f64.body.getD .skip, 20, [.tmp 4], some (rle true [2, 2, 3, 4, 3, 2, 1, 2, 1])⟩, ⟨⟨Try.f64, Try.func64, rfl, rfl, rfl⟩, Try.call64⟩⟩
noncomputable def KQ : FE Try.prog := ⟨65, ⟨Try.f65.body.getD .skip, 8, [.tmp 4], some (rle true [2, 2, 1, 3])⟩, ⟨⟨Try.f65, Try.func65, rfl, rfl, rfl⟩, Try.call65⟩⟩
noncomputable def GP : FE Try.prog := ⟨66, ⟨Try.f66.body.getD .skip, 12, [.tmp 2], some (rle true [1, 1, 1, 9])⟩, ⟨⟨Try.f66, Try.func66, rfl, rfl, rfl⟩, Try.call66⟩⟩
noncomputable def KP : FE Try.prog := ⟨97, ⟨Try.f97.body.getD .skip, 6, [.tmp 2], some (rle true [1, 1, 1, 3])⟩, ⟨⟨Try.f97, Try.func97, rfl, rfl, rfl⟩, Try.call97⟩⟩
noncomputable def KO : FE Try.prog := ⟨98, ⟨Try.f98.body.getD .skip, 8, [.tmp 4], some (rle true [2, 2, 1, 3])⟩, ⟨⟨Try.f98, Try.func98, rfl, rfl, rfl⟩, Try.call98⟩⟩
noncomputable def AM : FE Try.prog := ⟨104, ⟨Try.f104.body.getD .skip, 95, [.tmp 6], some (rle true [3, 3, 4, 6, 1, 5, 1, 8, 1, 36, 1, 26])⟩, ⟨⟨Try.f104, Try.func104, rfl, rfl, rfl⟩, Try.call104⟩⟩
noncomputable def PT : FE Try.prog := ⟨108, ⟨Try.f108.body.getD .skip, 8, [.tmp 4], some (rle true [2, 2, 1, 3])⟩, ⟨⟨Try.f108, Try.func108, rfl, rfl, rfl⟩, Try.call108⟩⟩
noncomputable def PF : uR Try.prog := ⟨112, cN, mL Try.func112 (by kernel_rfl) (by kernel_rfl) (by kernel_rfl) (by kernel_rfl)⟩
noncomputable def PE : uR Try.prog := ⟨115, (gM 128), tJ (tS := 95) (tR := 4) (e := 128) (size := 1) Try.func115 (by kernel_rfl) (by kernel_rfl) (by kernel_rfl) (by kernel_rfl) Try.underlying95 (fun w => oY.ok.cZ) (fun h => TypeDesc.noConfusion (Option.some.inj (Try.underlying128.symm.trans h)))⟩
noncomputable def PD : uR Try.prog := ⟨119, cN, mL Try.func119 (by kernel_rfl) (by kernel_rfl) (by kernel_rfl) (by kernel_rfl)⟩
noncomputable def eqs : List (QE Try.prog) := [⟨25, by kernel_rfl, by kernel_rfl⟩, ⟨28, by kernel_rfl, by kernel_rfl⟩, ⟨61, by kernel_rfl, by kernel_rfl⟩]
noncomputable def env : Env := { P := Try.prog, IG := by kernel_rfl, types := (.node 48 (.node 28 (.node 17 (.node 5 (.node 3 (.leaf ty2) (.node 4 (.leaf ty3) (.leaf ty4))) (.node 9 (.leaf ty5) (.node 12 (.leaf ty9) (.leaf WG)))) (.node 24 (.node 21 (.leaf WE) (.node 22 (.leaf WD) (.leaf WC))) (.node 26 (.node 25 (.leaf WB) (.leaf WA)) (.node 27 (.leaf W9) (.leaf W8))))) (.node 40 (.node 31 (.node 29 (.leaf JI) (.node 30 (.leaf W7) (.leaf W6))) (.node 32 (.leaf eK) (.node 36 (.leaf W5) (.leaf W4)))) (.node 44 (.node 41 (.leaf W3) (.node 43 (.leaf SM) (.leaf W2))) (.node 46 (.node 45 (.leaf W1) (.leaf W0)) (.node 47 (.leaf VZ) (.leaf VY)))))) (.node 104 (.node 61 (.node 58 (.node 56 (.leaf BD) (.node 57 (.leaf VX) (.leaf SK))) (.node 59 (.leaf VW) (.node 60 (.leaf VV) (.leaf VU)))) (.node 97 (.node 95 (.leaf uV) (.node 96 (.leaf VT) (.leaf VS))) (.node 99 (.node 98 (.leaf VR) (.leaf VQ)) (.node 100 (.leaf VP) (.leaf MC))))) (.node 177 (.node 147 (.node 115 (.leaf MB) (.node 128 (.leaf MA) (.leaf oY))) (.node 161 (.leaf M9) (.node 176 (.leaf M8) (.leaf M7)))) (.node 180 (.node 178 (.leaf M4) (.node 179 (.leaf M3) (.leaf LZ))) (.node 182 (.node 181 (.leaf LY) (.leaf LX)) (.node 183 (.leaf LW) (.leaf LV))))))), funcs := (.node 66 (.node 63 (.node 20 (.leaf KR) (.leaf ZP)) (.node 64 (.leaf yA) (.node 65 (.leaf ED) (.leaf KQ)))) (.node 98 (.node 97 (.leaf GP) (.leaf KP)) (.node 104 (.leaf KO) (.node 108 (.leaf AM) (.leaf PT))))), y7 := [PF, PE, PD], eqs := eqs }
theorem HK (f : Nat) (h : (env.y7.all fun x => !(x.f.beq f)) = true) : ∀ args : List a9, fX env (aV env) f args = bH env (aV env) f args := fun _ => GO f h
theorem NB (f : Nat) (h : (env.jB.all fun x => !(x.fn.beq f)) = true) : ∀ k, k9 env.jB f k = true := OT f h
abbrev FI (k : Nat) (f : FE Try.prog) : Prop := (env.funcs.find k).i = f.i
abbrev FF (k : Nat) : Prop := (env.funcs.find k).f.beq k = true
theorem ti2 : ti env 2 = M.pure ⟨Go.TypeDesc.int (Go.IntKind.i64), 1, 8, .int .i64 (0)⟩ := rfl
theorem ti3 : ti env 3 = M.pure ⟨Go.TypeDesc.int (Go.IntKind.i64), 1, 8, .int .i64 (0)⟩ := rfl
theorem ti4 : ti env 4 = M.pure ⟨Go.TypeDesc.bool, 1, 1, .bool false⟩ := rfl
theorem ti5 : ti env 5 = M.pure ⟨Go.TypeDesc.int (Go.IntKind.u8), 1, 1, .int .u8 (0)⟩ := rfl
theorem ti9 : ti env 9 = M.pure ⟨Go.TypeDesc.string, 1, 16, .str []⟩ := rfl
theorem WW : ti env 12 = M.pure ⟨Go.TypeDesc.int (Go.IntKind.u64), 1, 8, .int .u64 (0)⟩ := rfl
theorem WV : ti env 17 = M.pure ⟨Go.TypeDesc.pointer 183, 1, 8, .dG⟩ := rfl
theorem WU : ti env 21 = M.pure ⟨Go.TypeDesc.int (Go.IntKind.i32), 1, 4, .int .i32 (0)⟩ := rfl
theorem JK : ti env 22 = M.pure ⟨Go.TypeDesc.pointer 59, 1, 8, .dG⟩ := rfl
theorem WT : ti env 24 = M.pure ⟨Go.TypeDesc.array 32 5, 32, 32, .agg [.int .u8 (0), .int .u8 (0), .int .u8 (0), .int .u8 (0), .int .u8 (0), .int .u8 (0), .int .u8 (0), .int .u8 (0), .int .u8 (0), .int .u8 (0), .int .u8 (0), .int .u8 (0), .int .u8 (0), .int .u8 (0), .int .u8 (0), .int .u8 (0), .int .u8 (0), .int .u8 (0), .int .u8 (0), .int .u8 (0), .int .u8 (0), .int .u8 (0), .int .u8 (0), .int .u8 (0), .int .u8 (0), .int .u8 (0), .int .u8 (0), .int .u8 (0), .int .u8 (0), .int .u8 (0), .int .u8 (0), .int .u8 (0)]⟩ := rfl
theorem nC : ti env 25 = M.pure ⟨Go.TypeDesc.array 32 5, 32, 32, .agg [.int .u8 (0), .int .u8 (0), .int .u8 (0), .int .u8 (0), .int .u8 (0), .int .u8 (0), .int .u8 (0), .int .u8 (0), .int .u8 (0), .int .u8 (0), .int .u8 (0), .int .u8 (0), .int .u8 (0), .int .u8 (0), .int .u8 (0), .int .u8 (0), .int .u8 (0), .int .u8 (0), .int .u8 (0), .int .u8 (0), .int .u8 (0), .int .u8 (0), .int .u8 (0), .int .u8 (0), .int .u8 (0), .int .u8 (0), .int .u8 (0), .int .u8 (0), .int .u8 (0), .int .u8 (0), .int .u8 (0), .int .u8 (0)]⟩ := rfl
theorem pK : ti env 26 = M.pure ⟨Go.TypeDesc.int (Go.IntKind.u32), 1, 4, .int .u32 (0)⟩ := rfl
theorem WS : ti env 27 = M.pure ⟨Go.TypeDesc.struct #[⟨"Tx", 25, 0, false, "", "", 0⟩, ⟨"N", 26, 32, false, "", "", 32⟩], 33, 36, .agg [.int .u8 (0), .int .u8 (0), .int .u8 (0), .int .u8 (0), .int .u8 (0), .int .u8 (0), .int .u8 (0), .int .u8 (0), .int .u8 (0), .int .u8 (0), .int .u8 (0), .int .u8 (0), .int .u8 (0), .int .u8 (0), .int .u8 (0), .int .u8 (0), .int .u8 (0), .int .u8 (0), .int .u8 (0), .int .u8 (0), .int .u8 (0), .int .u8 (0), .int .u8 (0), .int .u8 (0), .int .u8 (0), .int .u8 (0), .int .u8 (0), .int .u8 (0), .int .u8 (0), .int .u8 (0), .int .u8 (0), .int .u8 (0), .int .u32 (0)]⟩ := rfl
theorem gG : ti env 28 = M.pure ⟨Go.TypeDesc.struct #[⟨"Tx", 25, 0, false, "", "", 0⟩, ⟨"N", 26, 32, false, "", "", 32⟩], 33, 36, .agg [.int .u8 (0), .int .u8 (0), .int .u8 (0), .int .u8 (0), .int .u8 (0), .int .u8 (0), .int .u8 (0), .int .u8 (0), .int .u8 (0), .int .u8 (0), .int .u8 (0), .int .u8 (0), .int .u8 (0), .int .u8 (0), .int .u8 (0), .int .u8 (0), .int .u8 (0), .int .u8 (0), .int .u8 (0), .int .u8 (0), .int .u8 (0), .int .u8 (0), .int .u8 (0), .int .u8 (0), .int .u8 (0), .int .u8 (0), .int .u8 (0), .int .u8 (0), .int .u8 (0), .int .u8 (0), .int .u8 (0), .int .u8 (0), .int .u32 (0)]⟩ := rfl
theorem uY : ti env 29 = M.pure ⟨Go.TypeDesc.slice 5, 1, 24, .aN⟩ := rfl
theorem WR : ti env 30 = M.pure ⟨Go.TypeDesc.struct #[⟨"Point", 28, 0, false, "", "", 0⟩, ⟨"Made", 3, 33, false, "", "", 40⟩, ⟨"Value", 2, 34, false, "", "", 48⟩, ⟨"Script", 29, 35, false, "", "", 56⟩, ⟨"Base", 4, 36, false, "", "", 80⟩, ⟨"Spent", 3, 37, false, "", "", 88⟩, ⟨"Spender", 25, 38, false, "", "", 96⟩], 70, 128, .agg [.int .u8 (0), .int .u8 (0), .int .u8 (0), .int .u8 (0), .int .u8 (0), .int .u8 (0), .int .u8 (0), .int .u8 (0), .int .u8 (0), .int .u8 (0), .int .u8 (0), .int .u8 (0), .int .u8 (0), .int .u8 (0), .int .u8 (0), .int .u8 (0), .int .u8 (0), .int .u8 (0), .int .u8 (0), .int .u8 (0), .int .u8 (0), .int .u8 (0), .int .u8 (0), .int .u8 (0), .int .u8 (0), .int .u8 (0), .int .u8 (0), .int .u8 (0), .int .u8 (0), .int .u8 (0), .int .u8 (0), .int .u8 (0), .int .u32 (0), .int .i64 (0), .int .i64 (0), .aN, .bool false, .int .i64 (0), .int .u8 (0), .int .u8 (0), .int .u8 (0), .int .u8 (0), .int .u8 (0), .int .u8 (0), .int .u8 (0), .int .u8 (0), .int .u8 (0), .int .u8 (0), .int .u8 (0), .int .u8 (0), .int .u8 (0), .int .u8 (0), .int .u8 (0), .int .u8 (0), .int .u8 (0), .int .u8 (0), .int .u8 (0), .int .u8 (0), .int .u8 (0), .int .u8 (0), .int .u8 (0), .int .u8 (0), .int .u8 (0), .int .u8 (0), .int .u8 (0), .int .u8 (0), .int .u8 (0), .int .u8 (0), .int .u8 (0), .int .u8 (0)]⟩ := rfl
theorem cY : ti env 31 = M.pure ⟨Go.TypeDesc.struct #[⟨"Point", 28, 0, false, "", "", 0⟩, ⟨"Made", 3, 33, false, "", "", 40⟩, ⟨"Value", 2, 34, false, "", "", 48⟩, ⟨"Script", 29, 35, false, "", "", 56⟩, ⟨"Base", 4, 36, false, "", "", 80⟩, ⟨"Spent", 3, 37, false, "", "", 88⟩, ⟨"Spender", 25, 38, false, "", "", 96⟩], 70, 128, .agg [.int .u8 (0), .int .u8 (0), .int .u8 (0), .int .u8 (0), .int .u8 (0), .int .u8 (0), .int .u8 (0), .int .u8 (0), .int .u8 (0), .int .u8 (0), .int .u8 (0), .int .u8 (0), .int .u8 (0), .int .u8 (0), .int .u8 (0), .int .u8 (0), .int .u8 (0), .int .u8 (0), .int .u8 (0), .int .u8 (0), .int .u8 (0), .int .u8 (0), .int .u8 (0), .int .u8 (0), .int .u8 (0), .int .u8 (0), .int .u8 (0), .int .u8 (0), .int .u8 (0), .int .u8 (0), .int .u8 (0), .int .u8 (0), .int .u32 (0), .int .i64 (0), .int .i64 (0), .aN, .bool false, .int .i64 (0), .int .u8 (0), .int .u8 (0), .int .u8 (0), .int .u8 (0), .int .u8 (0), .int .u8 (0), .int .u8 (0), .int .u8 (0), .int .u8 (0), .int .u8 (0), .int .u8 (0), .int .u8 (0), .int .u8 (0), .int .u8 (0), .int .u8 (0), .int .u8 (0), .int .u8 (0), .int .u8 (0), .int .u8 (0), .int .u8 (0), .int .u8 (0), .int .u8 (0), .int .u8 (0), .int .u8 (0), .int .u8 (0), .int .u8 (0), .int .u8 (0), .int .u8 (0), .int .u8 (0), .int .u8 (0), .int .u8 (0), .int .u8 (0)]⟩ := rfl
theorem D9 : ti env 32 = M.pure ⟨Go.TypeDesc.int (Go.IntKind.i64), 1, 8, .int .i64 (0)⟩ := rfl
theorem WQ : ti env 36 = M.pure ⟨Go.TypeDesc.slice 41, 1, 24, .aN⟩ := rfl
theorem WO : ti env 40 = M.pure ⟨Go.TypeDesc.struct #[⟨"Script", 29, 0, false, "", "", 0⟩, ⟨"Balance", 2, 1, false, "", "", 24⟩], 2, 32, .agg [.aN, .int .i64 (0)]⟩ := rfl
theorem MH : ti env 41 = M.pure ⟨Go.TypeDesc.struct #[⟨"Script", 29, 0, false, "", "", 0⟩, ⟨"Balance", 2, 1, false, "", "", 24⟩], 2, 32, .agg [.aN, .int .i64 (0)]⟩ := rfl
theorem pJ : ti env 43 = M.pure ⟨Go.TypeDesc.slice 31, 1, 24, .aN⟩ := rfl
theorem FP : ti env 44 = M.pure ⟨Go.TypeDesc.slice 48, 1, 24, .aN⟩ := rfl
theorem WN : ti env 45 = M.pure ⟨Go.TypeDesc.struct #[⟨"Height", 3, 0, false, "", "", 0⟩, ⟨"Block", 25, 1, false, "", "", 8⟩, ⟨"Made", 43, 33, false, "", "", 40⟩, ⟨"Spends", 44, 34, false, "", "", 64⟩, ⟨"Burnt", 2, 35, false, "", "", 88⟩, ⟨"Left", 2, 36, false, "", "", 96⟩], 37, 104, .agg [.int .i64 (0), .int .u8 (0), .int .u8 (0), .int .u8 (0), .int .u8 (0), .int .u8 (0), .int .u8 (0), .int .u8 (0), .int .u8 (0), .int .u8 (0), .int .u8 (0), .int .u8 (0), .int .u8 (0), .int .u8 (0), .int .u8 (0), .int .u8 (0), .int .u8 (0), .int .u8 (0), .int .u8 (0), .int .u8 (0), .int .u8 (0), .int .u8 (0), .int .u8 (0), .int .u8 (0), .int .u8 (0), .int .u8 (0), .int .u8 (0), .int .u8 (0), .int .u8 (0), .int .u8 (0), .int .u8 (0), .int .u8 (0), .int .u8 (0), .aN, .aN, .int .i64 (0), .int .i64 (0)]⟩ := rfl
theorem mG : ti env 46 = M.pure ⟨Go.TypeDesc.struct #[⟨"Height", 3, 0, false, "", "", 0⟩, ⟨"Block", 25, 1, false, "", "", 8⟩, ⟨"Made", 43, 33, false, "", "", 40⟩, ⟨"Spends", 44, 34, false, "", "", 64⟩, ⟨"Burnt", 2, 35, false, "", "", 88⟩, ⟨"Left", 2, 36, false, "", "", 96⟩], 37, 104, .agg [.int .i64 (0), .int .u8 (0), .int .u8 (0), .int .u8 (0), .int .u8 (0), .int .u8 (0), .int .u8 (0), .int .u8 (0), .int .u8 (0), .int .u8 (0), .int .u8 (0), .int .u8 (0), .int .u8 (0), .int .u8 (0), .int .u8 (0), .int .u8 (0), .int .u8 (0), .int .u8 (0), .int .u8 (0), .int .u8 (0), .int .u8 (0), .int .u8 (0), .int .u8 (0), .int .u8 (0), .int .u8 (0), .int .u8 (0), .int .u8 (0), .int .u8 (0), .int .u8 (0), .int .u8 (0), .int .u8 (0), .int .u8 (0), .int .u8 (0), .aN, .aN, .int .i64 (0), .int .i64 (0)]⟩ := rfl
theorem WM : ti env 47 = M.pure ⟨Go.TypeDesc.struct #[⟨"Point", 28, 0, false, "", "", 0⟩, ⟨"Spender", 25, 33, false, "", "", 36⟩], 65, 68, .agg [.int .u8 (0), .int .u8 (0), .int .u8 (0), .int .u8 (0), .int .u8 (0), .int .u8 (0), .int .u8 (0), .int .u8 (0), .int .u8 (0), .int .u8 (0), .int .u8 (0), .int .u8 (0), .int .u8 (0), .int .u8 (0), .int .u8 (0), .int .u8 (0), .int .u8 (0), .int .u8 (0), .int .u8 (0), .int .u8 (0), .int .u8 (0), .int .u8 (0), .int .u8 (0), .int .u8 (0), .int .u8 (0), .int .u8 (0), .int .u8 (0), .int .u8 (0), .int .u8 (0), .int .u8 (0), .int .u8 (0), .int .u8 (0), .int .u32 (0), .int .u8 (0), .int .u8 (0), .int .u8 (0), .int .u8 (0), .int .u8 (0), .int .u8 (0), .int .u8 (0), .int .u8 (0), .int .u8 (0), .int .u8 (0), .int .u8 (0), .int .u8 (0), .int .u8 (0), .int .u8 (0), .int .u8 (0), .int .u8 (0), .int .u8 (0), .int .u8 (0), .int .u8 (0), .int .u8 (0), .int .u8 (0), .int .u8 (0), .int .u8 (0), .int .u8 (0), .int .u8 (0), .int .u8 (0), .int .u8 (0), .int .u8 (0), .int .u8 (0), .int .u8 (0), .int .u8 (0), .int .u8 (0)]⟩ := rfl
theorem zE : ti env 48 = M.pure ⟨Go.TypeDesc.struct #[⟨"Point", 28, 0, false, "", "", 0⟩, ⟨"Spender", 25, 33, false, "", "", 36⟩], 65, 68, .agg [.int .u8 (0), .int .u8 (0), .int .u8 (0), .int .u8 (0), .int .u8 (0), .int .u8 (0), .int .u8 (0), .int .u8 (0), .int .u8 (0), .int .u8 (0), .int .u8 (0), .int .u8 (0), .int .u8 (0), .int .u8 (0), .int .u8 (0), .int .u8 (0), .int .u8 (0), .int .u8 (0), .int .u8 (0), .int .u8 (0), .int .u8 (0), .int .u8 (0), .int .u8 (0), .int .u8 (0), .int .u8 (0), .int .u8 (0), .int .u8 (0), .int .u8 (0), .int .u8 (0), .int .u8 (0), .int .u8 (0), .int .u8 (0), .int .u32 (0), .int .u8 (0), .int .u8 (0), .int .u8 (0), .int .u8 (0), .int .u8 (0), .int .u8 (0), .int .u8 (0), .int .u8 (0), .int .u8 (0), .int .u8 (0), .int .u8 (0), .int .u8 (0), .int .u8 (0), .int .u8 (0), .int .u8 (0), .int .u8 (0), .int .u8 (0), .int .u8 (0), .int .u8 (0), .int .u8 (0), .int .u8 (0), .int .u8 (0), .int .u8 (0), .int .u8 (0), .int .u8 (0), .int .u8 (0), .int .u8 (0), .int .u8 (0), .int .u8 (0), .int .u8 (0), .int .u8 (0), .int .u8 (0)]⟩ := rfl
theorem pD : ti env 56 = M.pure ⟨Go.TypeDesc.pointer 100, 1, 8, .dG⟩ := rfl
theorem tH : ti env 57 = M.pure ⟨Go.TypeDesc.slice 61, 1, 24, .aN⟩ := rfl
theorem WL : ti env 58 = M.pure ⟨Go.TypeDesc.struct #[⟨"x", 56, 0, false, "", "purser/store", 0⟩, ⟨"levels", 57, 1, false, "", "purser/store", 8⟩], 2, 32, .agg [.dG, .aN]⟩ := rfl
theorem MG : ti env 59 = M.pure ⟨Go.TypeDesc.struct #[⟨"x", 56, 0, false, "", "purser/store", 0⟩, ⟨"levels", 57, 1, false, "", "purser/store", 8⟩], 2, 32, .agg [.dG, .aN]⟩ := rfl
theorem WK : ti env 60 = M.pure ⟨Go.TypeDesc.struct #[⟨"Height", 3, 0, false, "", "", 0⟩, ⟨"Block", 25, 1, false, "", "", 8⟩, ⟨"Coins", 3, 33, false, "", "", 40⟩, ⟨"Total", 2, 34, false, "", "", 48⟩, ⟨"Burnt", 2, 35, false, "", "", 56⟩, ⟨"Left", 2, 36, false, "", "", 64⟩], 37, 72, .agg [.int .i64 (0), .int .u8 (0), .int .u8 (0), .int .u8 (0), .int .u8 (0), .int .u8 (0), .int .u8 (0), .int .u8 (0), .int .u8 (0), .int .u8 (0), .int .u8 (0), .int .u8 (0), .int .u8 (0), .int .u8 (0), .int .u8 (0), .int .u8 (0), .int .u8 (0), .int .u8 (0), .int .u8 (0), .int .u8 (0), .int .u8 (0), .int .u8 (0), .int .u8 (0), .int .u8 (0), .int .u8 (0), .int .u8 (0), .int .u8 (0), .int .u8 (0), .int .u8 (0), .int .u8 (0), .int .u8 (0), .int .u8 (0), .int .u8 (0), .int .i64 (0), .int .i64 (0), .int .i64 (0), .int .i64 (0)]⟩ := rfl
theorem fQ : ti env 61 = M.pure ⟨Go.TypeDesc.struct #[⟨"Height", 3, 0, false, "", "", 0⟩, ⟨"Block", 25, 1, false, "", "", 8⟩, ⟨"Coins", 3, 33, false, "", "", 40⟩, ⟨"Total", 2, 34, false, "", "", 48⟩, ⟨"Burnt", 2, 35, false, "", "", 56⟩, ⟨"Left", 2, 36, false, "", "", 64⟩], 37, 72, .agg [.int .i64 (0), .int .u8 (0), .int .u8 (0), .int .u8 (0), .int .u8 (0), .int .u8 (0), .int .u8 (0), .int .u8 (0), .int .u8 (0), .int .u8 (0), .int .u8 (0), .int .u8 (0), .int .u8 (0), .int .u8 (0), .int .u8 (0), .int .u8 (0), .int .u8 (0), .int .u8 (0), .int .u8 (0), .int .u8 (0), .int .u8 (0), .int .u8 (0), .int .u8 (0), .int .u8 (0), .int .u8 (0), .int .u8 (0), .int .u8 (0), .int .u8 (0), .int .u8 (0), .int .u8 (0), .int .u8 (0), .int .u8 (0), .int .u8 (0), .int .i64 (0), .int .i64 (0), .int .i64 (0), .int .i64 (0)]⟩ := rfl
theorem pI : ti env 95 = M.pure ⟨Go.TypeDesc.slice 128, 1, 24, .aN⟩ := rfl
theorem JJ : ti env 96 = M.pure ⟨Go.TypeDesc.func #[128, 128] #[3] false, 1, 8, .cF⟩ := rfl
theorem WJ : ti env 97 = M.pure ⟨Go.TypeDesc.struct #[⟨"l", 95, 0, false, "", "purser/index", 0⟩, ⟨"order", 96, 1, false, "", "purser/index", 24⟩], 2, 32, .agg [.aN, .cF]⟩ := rfl
theorem WI : ti env 98 = M.pure ⟨Go.TypeDesc.struct #[⟨"l", 95, 0, false, "", "purser/index", 0⟩, ⟨"order", 96, 1, false, "", "purser/index", 24⟩], 2, 32, .agg [.aN, .cF]⟩ := rfl
theorem WH : ti env 99 = M.pure ⟨Go.TypeDesc.struct #[⟨"made", 4, 0, false, "", "purser/index", 0⟩, ⟨"points", 98, 1, false, "", "purser/index", 8⟩, ⟨"scripts", 98, 3, false, "", "purser/index", 40⟩], 5, 72, .agg [.bool false, .aN, .cF, .aN, .cF]⟩ := rfl
theorem I2 : ti env 100 = M.pure ⟨Go.TypeDesc.struct #[⟨"made", 4, 0, false, "", "purser/index", 0⟩, ⟨"points", 98, 1, false, "", "purser/index", 8⟩, ⟨"scripts", 98, 3, false, "", "purser/index", 40⟩], 5, 72, .agg [.bool false, .aN, .cF, .aN, .cF]⟩ := rfl
theorem MV : ti env 104 = M.pure ⟨Go.TypeDesc.struct #[⟨"Kind", 3, 0, false, "", "", 0⟩, ⟨"A", 46, 1, false, "", "", 8⟩, ⟨"Next", 4, 38, false, "", "", 112⟩, ⟨"N", 3, 39, false, "", "", 120⟩], 40, 128, .agg [.int .i64 (0), .int .i64 (0), .int .u8 (0), .int .u8 (0), .int .u8 (0), .int .u8 (0), .int .u8 (0), .int .u8 (0), .int .u8 (0), .int .u8 (0), .int .u8 (0), .int .u8 (0), .int .u8 (0), .int .u8 (0), .int .u8 (0), .int .u8 (0), .int .u8 (0), .int .u8 (0), .int .u8 (0), .int .u8 (0), .int .u8 (0), .int .u8 (0), .int .u8 (0), .int .u8 (0), .int .u8 (0), .int .u8 (0), .int .u8 (0), .int .u8 (0), .int .u8 (0), .int .u8 (0), .int .u8 (0), .int .u8 (0), .int .u8 (0), .int .u8 (0), .aN, .aN, .int .i64 (0), .int .i64 (0), .bool false, .int .i64 (0)]⟩ := rfl
theorem MU : ti env 115 = M.pure ⟨Go.TypeDesc.map 9 2, 1, 8, .kZ⟩ := rfl
theorem iT : ti env 128 = M.pure ⟨Go.TypeDesc.pointer 31, 1, 8, .dG⟩ := rfl
theorem MS : ti env 147 = M.pure ⟨Go.TypeDesc.slice 3, 1, 24, .aN⟩ := rfl
theorem MQ : ti env 161 = M.pure ⟨Go.TypeDesc.map 28 3, 1, 8, .kZ⟩ := rfl
theorem MP : ti env 176 = M.pure ⟨Go.TypeDesc.int (Go.IntKind.u8), 1, 1, .int .u8 (0)⟩ := rfl
theorem MO : ti env 177 = M.pure ⟨Go.TypeDesc.int (Go.IntKind.u8), 1, 1, .int .u8 (0)⟩ := rfl
theorem MN : ti env 178 = M.pure ⟨Go.TypeDesc.func #[185, 185] #[4] false, 1, 8, .cF⟩ := rfl
theorem MM : ti env 179 = M.pure ⟨Go.TypeDesc.pointer 5, 1, 8, .dG⟩ := rfl
theorem ML : ti env 180 = M.pure ⟨Go.TypeDesc.int (Go.IntKind.i32), 1, 4, .int .i32 (0)⟩ := rfl
theorem MK : ti env 181 = M.pure ⟨Go.TypeDesc.int (Go.IntKind.i32), 1, 4, .int .i32 (0)⟩ := rfl
theorem MJ : ti env 182 = M.pure ⟨Go.TypeDesc.struct #[⟨"Size_", 12, 0, false, "", "", 0⟩, ⟨"PtrBytes", 12, 1, false, "", "", 8⟩, ⟨"Hash", 26, 2, false, "", "", 16⟩, ⟨"TFlag", 176, 3, false, "", "", 20⟩, ⟨"Align_", 5, 4, false, "", "", 21⟩, ⟨"FieldAlign_", 5, 5, false, "", "", 22⟩, ⟨"Kind_", 177, 6, false, "", "", 23⟩, ⟨"Equal", 178, 7, false, "", "", 24⟩, ⟨"GCData", 179, 8, false, "", "", 32⟩, ⟨"Str", 180, 9, false, "", "", 40⟩, ⟨"PtrToThis", 181, 10, false, "", "", 44⟩], 11, 48, .agg [.int .u64 (0), .int .u64 (0), .int .u32 (0), .int .u8 (0), .int .u8 (0), .int .u8 (0), .int .u8 (0), .cF, .dG, .int .i32 (0), .int .i32 (0)]⟩ := rfl
theorem MI : ti env 183 = M.pure ⟨Go.TypeDesc.struct #[⟨"Size_", 12, 0, false, "", "", 0⟩, ⟨"PtrBytes", 12, 1, false, "", "", 8⟩, ⟨"Hash", 26, 2, false, "", "", 16⟩, ⟨"TFlag", 176, 3, false, "", "", 20⟩, ⟨"Align_", 5, 4, false, "", "", 21⟩, ⟨"FieldAlign_", 5, 5, false, "", "", 22⟩, ⟨"Kind_", 177, 6, false, "", "", 23⟩, ⟨"Equal", 178, 7, false, "", "", 24⟩, ⟨"GCData", 179, 8, false, "", "", 32⟩, ⟨"Str", 180, 9, false, "", "", 40⟩, ⟨"PtrToThis", 181, 10, false, "", "", 44⟩], 11, 48, .agg [.int .u64 (0), .int .u64 (0), .int .u32 (0), .int .u8 (0), .int .u8 (0), .int .u8 (0), .int .u8 (0), .cF, .dG, .int .i32 (0), .int .i32 (0)]⟩ := rfl
theorem al3 : FI 17 KR := rfl
theorem ap7 : FF 17 := rfl
theorem U4 : ∀ tm : List a9, bF env 17 tm = aF [T, T, T, F, F, F, T, T, F, T, T, F, T, T, T, T, T, T, F, F, F, F, F, F, F, T, F, F, F, F, F, F, F, T, T, T, T, F, F, F, F, F, F, F, F, F, F, F, F, F, F, F, F, F, F, F, T, F, T, F, T, F, F, F, F, F, F, F, F, F, F, F, T, F, F, F, F, F, F, F, F, F, F, F, F] tm := fun _ => rfl
theorem aD5 : FI 20 ZP := rfl
theorem aP3 : FF 20 := rfl
theorem aJ4 : ∀ tm : List a9, bF env 20 tm = aF [T, F, T, F, T, F, F, F, F, F, F] tm := fun _ => rfl
theorem ZX : FI 63 yA := rfl
theorem aa5 : FF 63 := rfl
theorem aa3 : ∀ tm : List a9, bF env 63 tm = aF [T, F, T, T, F, T, T, T, T, T, F, F, F, F, T, F, F, F] tm := fun _ => rfl
theorem al2 : FI 64 ED := rfl
theorem ap6 : FF 64 := rfl
theorem aa2 : ∀ tm : List a9, bF env 64 tm = aF [T, T, F, F, T, T, T, F, F, F, F, T, T, T, F, F, T, F, F, T] tm := fun _ => rfl
theorem al1 : FI 65 KQ := rfl
theorem ap5 : FF 65 := rfl
theorem aa1 : ∀ tm : List a9, bF env 65 tm = aF [T, T, F, F, T, F, F, F] tm := fun _ => rfl
theorem ZW : FI 66 GP := rfl
theorem aa4 : FF 66 := rfl
theorem aa0 : ∀ tm : List a9, bF env 66 tm = aF [T, F, T, F, F, F, F, F, F, F, F, F] tm := fun _ => rfl
theorem al0 : FI 97 KP := rfl
theorem ap4 : FF 97 := rfl
theorem ZZ : ∀ tm : List a9, bF env 97 tm = aF [T, F, T, F, F, F] tm := fun _ => rfl
theorem ak9 : FI 98 KO := rfl
theorem ap3 : FF 98 := rfl
theorem ZY : ∀ tm : List a9, bF env 98 tm = aF [T, T, F, F, T, F, F, F] tm := fun _ => rfl
theorem VA : FI 104 AM := rfl
theorem VB : FF 104 := rfl
theorem ao8 : ∀ tm : List a9, bF env 104 tm = aF [T, T, T, F, F, F, T, T, T, T, F, F, F, F, F, F, T, F, F, F, F, F, T, F, F, F, F, F, F, F, F, T, F, F, F, F, F, F, F, F, F, F, F, F, F, F, F, F, F, F, F, F, F, F, F, F, F, F, F, F, F, F, F, F, F, F, F, F, T, F, F, F, F, F, F, F, F, F, F, F, F, F, F, F, F, F, F, F, F, F, F, F, F, F, F] tm := fun _ => rfl
theorem am3 : FI 108 PT := rfl
theorem aq7 : FF 108 := rfl
theorem ao4 : ∀ tm : List a9, bF env 108 tm = aF [T, T, F, F, T, F, F, F] tm := fun _ => rfl
theorem PI : ∀ args : List a9, fX env (aV env) 112 args = cN args := fun _ => rfl
theorem PH : ∀ args : List a9, fX env (aV env) 115 args = (gM 128) args := fun _ => rfl
theorem PG : ∀ args : List a9, fX env (aV env) 119 args = cN args := fun _ => rfl
theorem ac5 : ∀ ts l, cA env (9 :: ts) (.str l) = M.pure (.int .i64 (l.length : Nat)) := fun _ _ => rfl
theorem S4 : ∀ ts v, cA env (24 :: ts) v = M.pure (.int .i64 32) := fun _ _ => rfl
theorem S3 : ∀ ts v, cA env (25 :: ts) v = M.pure (.int .i64 32) := fun _ _ => rfl
theorem S2 : ∀ ts id off len cap sz, cA env (29 :: ts) (.sl id off len cap sz) = M.pure (.int .i64 (len : Nat)) := fun _ _ _ _ _ _ => rfl
theorem S0 : ∀ ts g sz off len, cA env (29 :: ts) (.isl g sz off len) = M.pure (.int .i64 (len : Nat)) := fun _ _ _ _ _ => rfl
theorem RZ : ∀ ts, cA env (29 :: ts) .aN = M.pure (.int .i64 0) := fun _ => rfl
theorem RY : ∀ ts, cA env (29 :: ts) .emp = M.pure (.int .i64 0) := fun _ => rfl
theorem RW : ∀ ts id off len cap sz, cA env (36 :: ts) (.sl id off len cap sz) = M.pure (.int .i64 (len : Nat)) := fun _ _ _ _ _ _ => rfl
theorem RU : ∀ ts g sz off len, cA env (36 :: ts) (.isl g sz off len) = M.pure (.int .i64 (len : Nat)) := fun _ _ _ _ _ => rfl
theorem RT : ∀ ts, cA env (36 :: ts) .aN = M.pure (.int .i64 0) := fun _ => rfl
theorem RS : ∀ ts, cA env (36 :: ts) .emp = M.pure (.int .i64 0) := fun _ => rfl
theorem RR : ∀ ts id off len cap sz, cA env (43 :: ts) (.sl id off len cap sz) = M.pure (.int .i64 (len : Nat)) := fun _ _ _ _ _ _ => rfl
theorem RQ : ∀ ts g sz off len, cA env (43 :: ts) (.isl g sz off len) = M.pure (.int .i64 (len : Nat)) := fun _ _ _ _ _ => rfl
theorem RM : ∀ ts, cA env (43 :: ts) .aN = M.pure (.int .i64 0) := fun _ => rfl
theorem RK : ∀ ts, cA env (43 :: ts) .emp = M.pure (.int .i64 0) := fun _ => rfl
theorem RJ : ∀ ts id off len cap sz, cA env (44 :: ts) (.sl id off len cap sz) = M.pure (.int .i64 (len : Nat)) := fun _ _ _ _ _ _ => rfl
theorem RI : ∀ ts g sz off len, cA env (44 :: ts) (.isl g sz off len) = M.pure (.int .i64 (len : Nat)) := fun _ _ _ _ _ => rfl
theorem RH : ∀ ts, cA env (44 :: ts) .aN = M.pure (.int .i64 0) := fun _ => rfl
theorem RG : ∀ ts, cA env (44 :: ts) .emp = M.pure (.int .i64 0) := fun _ => rfl
theorem RE : ∀ ts id off len cap sz, cA env (57 :: ts) (.sl id off len cap sz) = M.pure (.int .i64 (len : Nat)) := fun _ _ _ _ _ _ => rfl
theorem RD : ∀ ts g sz off len, cA env (57 :: ts) (.isl g sz off len) = M.pure (.int .i64 (len : Nat)) := fun _ _ _ _ _ => rfl
theorem RC : ∀ ts, cA env (57 :: ts) .aN = M.pure (.int .i64 0) := fun _ => rfl
theorem RA : ∀ ts, cA env (57 :: ts) .emp = M.pure (.int .i64 0) := fun _ => rfl
theorem R9 : ∀ ts id off len cap sz, cA env (95 :: ts) (.sl id off len cap sz) = M.pure (.int .i64 (len : Nat)) := fun _ _ _ _ _ _ => rfl
theorem R8 : ∀ ts g sz off len, cA env (95 :: ts) (.isl g sz off len) = M.pure (.int .i64 (len : Nat)) := fun _ _ _ _ _ => rfl
theorem R7 : ∀ ts, cA env (95 :: ts) .aN = M.pure (.int .i64 0) := fun _ => rfl
theorem R6 : ∀ ts, cA env (95 :: ts) .emp = M.pure (.int .i64 0) := fun _ => rfl
theorem HP : ∀ ts id off len cap sz, cA env (147 :: ts) (.sl id off len cap sz) = M.pure (.int .i64 (len : Nat)) := fun _ _ _ _ _ _ => rfl
theorem HO : ∀ ts g sz off len, cA env (147 :: ts) (.isl g sz off len) = M.pure (.int .i64 (len : Nat)) := fun _ _ _ _ _ => rfl
theorem HN : ∀ ts, cA env (147 :: ts) .aN = M.pure (.int .i64 0) := fun _ => rfl
theorem HM : ∀ ts, cA env (147 :: ts) .emp = M.pure (.int .i64 0) := fun _ => rfl
noncomputable def C5 : Code := (bC (Try.f17.body.getD .skip)).getD 0 .skip
noncomputable def C4 : Code := (bC (Try.f17.body.getD .skip)).getD 1 .skip
noncomputable def sU : Code := (bC (Try.f17.body.getD .skip)).getD 2 .skip
noncomputable def XJ : Code := (bC (Try.f63.body.getD .skip)).getD 0 .skip
def tyr := (And.intro ti2 (And.intro ti3 (And.intro ti4 (And.intro ti5 (And.intro ti9 (And.intro WW (And.intro WV (And.intro WU (And.intro JK (And.intro WT (And.intro nC (And.intro pK (And.intro WS (And.intro gG (And.intro uY (And.intro WR (And.intro cY (And.intro D9 (And.intro WQ (And.intro WO (And.intro MH (And.intro pJ (And.intro FP (And.intro WN (And.intro mG (And.intro WM (And.intro zE (And.intro pD (And.intro tH (And.intro WL (And.intro MG (And.intro WK (And.intro fQ (And.intro pI (And.intro JJ (And.intro WJ (And.intro WI (And.intro WH (And.intro I2 (And.intro MV (And.intro MU (And.intro iT (And.intro MS (And.intro MQ (And.intro MP (And.intro MO (And.intro MN (And.intro MM (And.intro ML (And.intro MK (And.intro MJ MI)))))))))))))))))))))))))))))))))))))))))))))))))))
def blr := (And.intro ac5 (And.intro S4 (And.intro S3 (And.intro S2 (And.intro S0 (And.intro RZ (And.intro RY (And.intro RW (And.intro RU (And.intro RT (And.intro RS (And.intro RR (And.intro RQ (And.intro RM (And.intro RK (And.intro RJ (And.intro RI (And.intro RH (And.intro RG (And.intro RE (And.intro RD (And.intro RC (And.intro RA (And.intro R9 (And.intro R8 (And.intro R7 (And.intro R6 (And.intro HP (And.intro HO (And.intro HN HM))))))))))))))))))))))))))))))
def fgr := (And.intro U4 (And.intro aJ4 (And.intro aa3 (And.intro aa2 (And.intro aa1 (And.intro aa0 (And.intro ZZ (And.intro ZY (And.intro ao8 (And.intro ao4 (And.intro (NB 17 rfl) (And.intro (NB 20 rfl) (And.intro (NB 63 rfl) (And.intro (NB 64 rfl) (And.intro (NB 65 rfl) (And.intro (NB 66 rfl) (And.intro (NB 97 rfl) (And.intro (NB 98 rfl) (And.intro (NB 104 rfl) (NB 108 rfl))))))))))))))))))))
def hkr := (And.intro (HK 17 rfl) (And.intro (HK 20 rfl) (And.intro (HK 63 rfl) (And.intro (HK 64 rfl) (And.intro (HK 65 rfl) (And.intro (HK 66 rfl) (And.intro (HK 97 rfl) (And.intro (HK 98 rfl) (And.intro (HK 104 rfl) (And.intro (HK 108 rfl) (And.intro PI (And.intro PH PG))))))))))))
end Go.Am.Ytlgebaofkolkoaa.Ins
set_option linter.unusedSimpArgs false
set_option linter.unusedVariables false
set_option linter.defProp false
set_option maxRecDepth 10000
namespace Go.Am.Ytlgebaofkolkoaa.Ins
open Go Go.Am Go.Proofs
def aS (aI : List UInt8) (pn : Int) : List a9 := aI.map u8 ++ [.int .u32 pn]
theorem bM {aI : List UInt8} {pn : Int} (h : aI.length = 32) : (aS aI pn).length = 33 := by simp [aS, h]
theorem gY {aI : List UInt8} {pn : Int} (h : aI.length = 32) : (aS aI pn)[32]? = some (.int .u32 pn) := by
 unfold aS
 rw [List.getElem?_append_right (by rw [List.length_map]; omega), List.length_map, h]; rfl
theorem nY {α : Type} {f : α → M Bool} {g : α → Bool} : ∀ (l : List α), (∀ x ∈ l, f x = M.pure (g x)) → wQ f l = M.pure (l.all g)
 | [], _ => rfl
 | x :: l, h => by
  simp only [wQ, h x (List.mem_cons_self), aB, nY l fun y hy => h y (List.mem_cons_of_mem _ hy), List.all_cons]
theorem xO {a : List UInt8} {i : Nat} (hi : i < a.length) : part env 5 (a.map u8) i = M.pure (u8 a[i]) := by
 simp only [part, ti5, aB, jG, List.getElem?_map, List.getElem?_eq_getElem hi, Option.map_some, fV]
theorem eq5 (d : Nat) (x y : UInt8) : equal env (d + 1) 5 (u8 x) (u8 y) = M.pure (x == y) := by
 have : ((x.toNat : Int) == (y.toNat : Int)) = (x == y) := by
  by_cases e : x = y
  ·subst e; simp
  ·have h2 : ¬ ((x.toNat : Int) = (y.toNat : Int)) := fun q => e (UInt8.toNat_inj.1 (by omega))
   rw [beq_eq_false_iff_ne.2 h2, beq_eq_false_iff_ne.2 e]
 simp only [equal, u8, und, ti5, aB, decide_true]
 rw [this]
theorem QB (d : Nat) (a b : List UInt8) (ha : a.length = 32) (hb : b.length = 32) : equal env (d + 1 + 1) 25 (.agg (a.map u8)) (.agg (b.map u8)) = M.pure (decide (a = b)) := by
 have hq : zR env env.eqs 25 = true := rfl
 have h1 : equal env (d + 1 + 1) 25 (.agg (a.map u8)) (.agg (b.map u8)) = wQ (fun i => (part env 5 (a.map u8) (i * 1)).bind fun x => (part env 5 (b.map u8) (i * 1)).bind fun y => equal env (d + 1) 5 x y) (List.range 32) := by
  rw [equal]
  ·simp only [und, nC, aB, hq, gK, sizeOf, ti5]
  all_goals (intro k n h; cases h)
 rw [h1, nY (g := fun i => (a.getD i 0 == b.getD i 0)) _ fun i hi => ?_]
 ·congr 1
  rw [Bool.eq_iff_iff, List.all_eq_true, decide_eq_true_iff]
  constructor
  ·intro h
   apply List.ext_getElem (by omega)
   intro i h1 h2
   have := h i (List.mem_range.2 (by omega))
   rw [List.getD_eq_getElem?_getD, List.getD_eq_getElem?_getD, List.getElem?_eq_getElem h1, List.getElem?_eq_getElem h2] at this
   simpa using this
  ·rintro rfl i _
   simp
 ·have hi := List.mem_range.1 hi
  rw [Nat.mul_one, xO (by omega), aB, xO (by omega), aB, eq5]
  rw [List.getD_eq_getElem?_getD, List.getD_eq_getElem?_getD, List.getElem?_eq_getElem (by omega), List.getElem?_eq_getElem (by omega)]
  rfl
theorem QA (d : Nat) (h1 h2 : List UInt8) (n1 n2 : Int) (l1 : h1.length = 32) (l2 : h2.length = 32) : equal env (d + 1 + 1 + 1) 28 (.agg (aS h1 n1)) (.agg (aS h2 n2)) = M.pure (decide (h1 = h2) && (n1 == n2)) := by
 have hq : zR env env.eqs 28 = true := rfl
 have p0 : ∀ (hh : List UInt8) (nn : Int), hh.length = 32 → part env 25 (aS hh nn) 0 = M.pure (.agg (hh.map u8)) := fun hh nn hl => by
  simp only [part, nC, aB, jG, List.drop_zero]
  rw [show (aS hh nn).take 32 = hh.map u8 by unfold aS; rw [List.take_append_of_le_length (by simp [hl]), List.take_of_length_le (by simp [hl])]]
 have p1 : ∀ (hh : List UInt8) (nn : Int), hh.length = 32 → part env 26 (aS hh nn) 32 = M.pure (.int .u32 nn) := fun hh nn hl => by
  simp only [part, pK, aB, jG, gY hl, fV]
 have p2 : equal env (d + 1 + 1) 26 (.int .u32 n1) (.int .u32 n2) = M.pure (n1 == n2) := by
  simp only [equal, und, pK, aB, decide_true]
 rw [equal]
 ·simp only [und, gG, aB, hq, gK]
  simp only [wQ, show decide ("Tx" = "_") = false from rfl, show decide ("N" = "_") = false from rfl, p0 h1 n1 l1, p0 h2 n2 l2, p1 h1 n1 l1, p1 h2 n2 l2, aB, QB d h1 h2 l1 l2, p2, Bool.and_true]
 all_goals (intro k n h; cases h)
abbrev Pt := List UInt8 × Int
def ptA (p : Pt) : a9 := .agg (aS p.1 p.2)
theorem FN {a b : UInt8} (h : u8 a = u8 b) : a = b := by
 unfold u8 at h
 injection h with h1 h2
 exact UInt8.toNat_inj.1 (by omega)
theorem lW : ∀ {a b : List UInt8}, a.map u8 = b.map u8 → a = b
 | [], [], _ => rfl
 | [], _ :: _, h => by cases h
 | _ :: _, [], h => by cases h
 | x :: a, y :: b, h => by
  simp only [List.map_cons, List.cons.injEq] at h
  rw [FN h.1, lW h.2]
theorem tO {p q : Pt} (h : ptA p = ptA q) : p = q := by
 unfold ptA aS at h
 injection h with h
 obtain ⟨h1, h2⟩ := List.append_inj' h rfl
 injection h2 with h2
 injection h2 with _ h2
 exact Prod.ext (lW h1) h2
noncomputable def isK (k a : a9) : Bool := @decide (a = k) (Classical.propDecidable _)
theorem mN {k a : a9} : isK k a = true ↔ a = k := by unfold isK; exact @decide_eq_true_iff _ (Classical.propDecidable _)
theorem xZ {k a : a9} (h : a ≠ k) : isK k a = false := by
 cases e : isK k a with
 | false => rfl
 | true => exact absurd (mN.1 e) h
theorem xB (p q : Pt) (l1 : p.1.length = 32) (l2 : q.1.length = 32) : bS env 28 (ptA p) (ptA q) = M.pure (isK (ptA p) (ptA q)) := by
 have e : bS env 28 (ptA p) (ptA q) = M.pure (decide (p.1 = q.1) && (p.2 == q.2)) := QA 97 p.1 q.1 p.2 q.2 l1 l2
 rw [e]
 congr 1
 by_cases c : p = q
 ·subst c
  rw [mN.2 rfl]; simp
 ·rw [xZ fun w => c (tO w).symm]
  by_cases d : p.1 = q.1
  ·rw [decide_eq_true d, Bool.true_and, beq_eq_false_iff_ne]
   exact fun w => c (Prod.ext d w)
  ·rw [decide_eq_false d]; rfl
theorem DI : ∀ l : List a9, (∀ a ∈ l, pQ a a = true) → wR l l = true
 | [], _ => rfl
 | a :: l, h => by
  simp only [wR, h a (List.mem_cons_self ..), DI l fun x hx => h x (List.mem_cons_of_mem _ hx), Bool.and_self]
theorem I7 (p : Pt) : jK (ptA p) (ptA p) = true := by
 refine DI _ fun a ha => ?_
 unfold aS at ha
 rcases List.mem_append.1 ha with h | h
 ·obtain ⟨b, _, rfl⟩ := List.mem_map.1 h
  simp [u8, pQ]
 ·rw [List.mem_singleton] at h
  subst h
  simp [pQ]
theorem PA (d : Nat) (x : UInt8) : iX env (d + 1) 5 (u8 x) = M.pure () := by
 simp only [iX, und, ti5, aB]
theorem nX {α : Type} {f : α → M Unit} : ∀ (l : List α), (∀ x ∈ l, f x = M.pure ()) → CW f l = M.pure ()
 | [], _ => rfl
 | x :: l, h => by simp only [CW, h x (List.mem_cons_self ..), aB, nX l fun y hy => h y (List.mem_cons_of_mem _ hy)]
theorem GM (d : Nat) (a : List UInt8) (ha : a.length = 32) : iX env (d + 1 + 1) 25 (.agg (a.map u8)) = M.pure () := by
 rw [iX]
 simp only [und, nC, aB, gK, sizeOf, ti5]
 refine nX _ fun i hi => ?_
 have hi := List.mem_range.1 hi
 rw [Nat.mul_one, xO (by omega), aB, PA]
theorem vC (p : Pt) (l1 : p.1.length = 32) : iX env 100 28 (ptA p) = M.pure () := by
 have p0 : part env 25 (aS p.1 p.2) 0 = M.pure (.agg (p.1.map u8)) := by
  simp only [part, nC, aB, jG, List.drop_zero]
  rw [show (aS p.1 p.2).take 32 = p.1.map u8 by unfold aS; rw [List.take_append_of_le_length (by simp [l1]), List.take_of_length_le (by simp [l1])]]
 have p1 : part env 26 (aS p.1 p.2) 32 = M.pure (.int .u32 p.2) := by
  simp only [part, pK, aB, jG, gY l1, fV]
 have p2 : iX env (97 + 1 + 1) 26 (.int .u32 p.2) = M.pure () := by
  rw [iX]; simp only [und, pK, aB]
 unfold ptA
 show iX env (97 + 1 + 1 + 1) 28 (.agg (aS p.1 p.2)) = M.pure ()
 rw [iX]
 simp only [und, gG, aB, gK]
 simp only [CW, show decide ("Tx" = "_") = false from rfl, show decide ("N" = "_") = false from rfl, p0, p1, aB, GM 97 p.1 l1, p2]
theorem FO : und env 161 = M.pure (.map 28 3) := rfl
theorem z3o : j8 env 3 = M.pure (.int .i64 0) := rfl
end Go.Am.Ytlgebaofkolkoaa.Ins
set_option linter.unusedSimpArgs false
set_option linter.unusedVariables false
set_option linter.defProp false
set_option maxRecDepth 10000
namespace Go.Am.Ytlgebaofkolkoaa.Ins
open Go Go.Am Go.Proofs
theorem N4 {a b : a9} (h : pQ a b = true) : a = b := by
 unfold pQ at h
 split at h
 ·simp only [Bool.and_eq_true, decide_eq_true_eq, beq_iff_eq] at h
  rw [h.1, h.2]
 ·rw [beq_iff_eq] at h
  rw [h]
 ·cases h
theorem JC : ∀ {a b : List a9}, wR a b = true → a = b
 | [], [], _ => rfl
 | [], _ :: _, h => by simp [wR] at h
 | _ :: _, [], h => by simp [wR] at h
 | x :: a, y :: b, h => by
  simp only [wR, Bool.and_eq_true] at h
  rw [N4 h.1, JC h.2]
def FZ (l : List a9) : Option Pt := match l[32]? with
 | some v => match v with
  | .int .u32 z => match wR (aS ((l.take 32).map iV) z) l && (((l.take 32).map iV).length).beq 32 with
   | true => some ((l.take 32).map iV, z)
   | false => none
  | _ => none
 | none => none
theorem A7 {l : List a9} {p : Pt} (h : FZ l = some p) : l = aS p.1 p.2 ∧ p.1.length = 32 := by
 unfold FZ at h
 split at h
 ·split at h
  ·split at h
   ·rename_i e
    rw [Bool.and_eq_true] at e
    injection h with h
    subst h
    exact ⟨(JC e.1).symm, Nat.eq_of_beq_eq_true e.2⟩
   ·cases h
  ·cases h
 ·cases h
theorem IB {p : Pt} (h : p.1.length = 32) : FZ (aS p.1 p.2) = some p := by
 have e1 : (aS p.1 p.2).take 32 = p.1.map u8 := by unfold aS; rw [List.take_append_of_le_length (by simp [h]), List.take_of_length_le (by simp [h])]
 unfold FZ
 rw [gY h, e1]
 have e2 : (p.1.map u8).map iV = p.1 := jV p.1
 rw [e2]
 have e3 : wR (aS p.1 p.2) (aS p.1 p.2) = true := I7 p
 simp only [e3, h, Bool.true_and]
def EP (e : Ent) : Option (Pt × Int) := match e.1 with
 | .agg l => match FZ l with
  | some p => match e.2.1 with
   | .int .i64 z => some (p, z)
   | _ => none
  | none => none
 | _ => none
def cv (x : Pt × Int) : a9 × a9 := (ptA x.1, .int .i64 x.2)
theorem HA {e : Ent} {x : Pt × Int} (h : EP e = some x) : e.1 = ptA x.1 ∧ e.2.1 = .int .i64 x.2 ∧ x.1.1.length = 32 := by
 unfold EP at h
 split at h
 ·rename_i l e1
  split at h
  ·rename_i p hp
   split at h
   ·rename_i z e2
    injection h with h
    subst h
    obtain ⟨q1, q2⟩ := A7 hp
    exact ⟨by rw [e1, q1]; rfl, e2, q2⟩
   ·cases h
  ·cases h
 ·cases h
def oR (b : Nat) : List Ent → Option (List (Pt × Int))
 | [] => some []
 | e :: es => match EP e with
  | some x => match e.2.2.beq b with
   | true => match oR (b + 1) es with
    | some l => some (x :: l)
    | none => none
   | false => none
  | none => none
theorem uH : ∀ {es : List Ent} {b : Nat} {l : List (Pt × Int)}, oR b es = some l → es = fB b (l.map cv) ∧ ∀ x ∈ l, x.1.1.length = 32
 | [], b, l, h => by injection h with h; subst h; exact ⟨rfl, fun x hx => by cases hx⟩
 | e :: es, b, l, h => by
  unfold oR at h
  split at h
  ·rename_i x hx
   split at h
   ·rename_i hb
    split at h
    ·rename_i l2 hl
     injection h with h
     subst h
     obtain ⟨q1, q2⟩ := uH hl
     obtain ⟨a1, a2, a3⟩ := HA hx
     refine ⟨?_, fun y hy => ?_⟩
     ·simp only [List.map_cons, fB, ← q1]
      congr 1
      exact Prod.ext a1 (Prod.ext a2 (Nat.eq_of_beq_eq_true hb))
     ·rcases List.mem_cons.1 hy with rfl | hy
      ·exact a3
      ·exact q2 y hy
    ·cases h
   ·cases h
  ·cases h
theorem uI : ∀ (l : List (Pt × Int)) (b : Nat), (∀ x ∈ l, x.1.1.length = 32) → oR b (fB b (l.map cv)) = some l
 | [], b, _ => rfl
 | x :: l, b, h => by
  have e : EP (ptA x.1, a9.int .i64 x.2, b) = some x := by
   unfold EP ptA
   simp only [IB (h x (List.mem_cons_self ..))]
  simp only [List.map_cons, fB, oR, cv, e, Nat.beq_refl, uI l (b + 1) fun y hy => h y (List.mem_cons_of_mem _ hy)]
def mO (p : Pt) : List (Pt × Int) → Nat → Option (Nat × Int)
 | [], _ => none
 | x :: l, i => if x.1 = p then some (i, x.2) else mO p l (i + 1)
theorem AH {p : Pt} : ∀ (l : List (Pt × Int)) (i : Nat), dJ (isK (ptA p)) (l.map cv) i = (mO p l i).map fun x => (x.1, a9.int .i64 x.2)
 | [], _ => rfl
 | x :: l, i => by
  by_cases c : x.1 = p
  ·simp only [List.map_cons, cv, dJ, c, mN.2 rfl, if_pos, mO, Option.map_some]
  ·simp only [List.map_cons, cv, dJ, xZ fun w => c (tO w), mO, if_neg c, Bool.false_eq_true]
   exact AH l (i + 1)
theorem E6 {p : Pt} : ∀ {l : List (Pt × Int)} {i j : Nat} {z : Int}, mO p l i = some (j, z) → i ≤ j ∧ j - i < l.length ∧ l[j - i]? = some (p, z)
 | [], _, _, _, h => by cases h
 | x :: l, i, j, z, h => by
  unfold mO at h
  split at h
  ·rename_i c
   injection h with h
   injection h with h1 h2
   subst h1; subst h2
   refine ⟨Nat.le_refl _, by simp, ?_⟩
   rw [Nat.sub_self, ← c]; rfl
  ·obtain ⟨h1, h2, h3⟩ := E6 h
   refine ⟨by omega, by simp only [List.length_cons]; omega, ?_⟩
   rw [show j - i = (j - (i + 1)) + 1 by omega, List.getElem?_cons_succ]
   exact h3
def bump (p : Pt) (l : List (Pt × Int)) : List (Pt × Int) := match mO p l 0 with
 | some x => l.modify x.1 fun y => (y.1, IntKind.i64.wrap (x.2 + 1))
 | none => l ++ [(p, 1)]
def F6 (bx bm : Blk) : Option (Pt × Nat × List (Pt × Int)) := match bx with
 | .row c _ => match c with
  | .l cells => match FZ (cells.take 33) with
   | some p => match bm with
    | .map es ck => match oR (ck - es.length) es with
     | some l => match es.length.ble ck with
      | true => some (p, ck - es.length, l)
      | false => none
     | none => none
    | _ => none
   | none => none
  | _ => none
 | _ => none
def vX (tm : List a9) : List Nat → List a9
 | [] => tm
 | t :: l => vX (put tm t .aA) l
def rP (m c : Nat) (ts : List Nat) (tm : List a9) : M (eS × List a9) :=
 match nth tm m undef with
 | .map id => match nth tm c undef with
  | .ptr x off => match off.beq 0 && ts.all (fun t => t.blt tm.length) with
   | true => (eQ x).bind fun bx => (eQ id).bind fun bm => match F6 bx bm with
     | some r => (jW id (.map (fB r.2.1 ((bump r.1 r.2.2).map cv)) (r.2.1 + (bump r.1 r.2.2).length))).bind fun _ => M.pure (.normal, vX tm ts)
     | none => bD "bump"
   | false => bD "bump"
  | _ => bD "bump"
 | _ => bD "bump"
theorem HJ {bx bm : Blk} {r : Pt × Nat × List (Pt × Int)} (h : F6 bx bm = some r) : ∃ cells t, bx = .row (.l cells) t ∧ cells.take 33 = aS r.1.1 r.1.2 ∧ r.1.1.length = 32 ∧ bm = .map (fB r.2.1 (r.2.2.map cv)) (r.2.1 + r.2.2.length) ∧ ∀ x ∈ r.2.2, x.1.1.length = 32 := by
 unfold F6 at h
 split at h
 ·split at h
  ·split at h
   ·rename_i p hp
    split at h
    ·rename_i es ck
     split at h
     ·rename_i l hl
      split at h
      ·rename_i hle
       injection h with h
       subst h
       obtain ⟨q1, q2⟩ := A7 hp
       obtain ⟨a1, a2⟩ := uH hl
       have hle := Nat.le_of_ble_eq_true hle
       refine ⟨_, _, rfl, q1, q2, ?_, a2⟩
       have e1 : es.length = l.length := by rw [a1, qI, List.length_map]
       rw [← a1]
       congr 1
       show ck = ck - es.length + l.length
       omega
      ·cases h
     ·cases h
    ·cases h
   ·cases h
  ·cases h
 ·cases h
end Go.Am.Ytlgebaofkolkoaa.Ins
set_option linter.unusedSimpArgs false
set_option linter.unusedVariables false
set_option linter.defProp false
set_option maxRecDepth 10000
namespace Go.Am.Ytlgebaofkolkoaa.Ins
open Go Go.Am Go.Proofs
def dat (i : Nat) : Edge := ⟨i, .data⟩
def pha (i : Nat) : Edge := ⟨i, .phase⟩
def HL (b m c ty : Nat) (pos : String) : Array Oper := #[
 { dst := some b, op := .move (.tmp m), type := 161, pos := pos, after := #[], guard := none },
 { dst := some (b + 1), op := .fieldAddr ty (.tmp c) 0, type := 0, pos := pos, after := #[], guard := none },
 { dst := some (b + 2), op := .load 28 (.tmp (b + 1)), type := 28, pos := pos, after := #[dat 1], guard := none },
 { dst := some (b + 3), op := .lookup 161 (.tmp b) (.tmp (b + 2)) false, type := 3, pos := pos, after := #[dat 0, dat 2], guard := none },
 { dst := some (b + 4), op := .binOp .add 3 (.tmp (b + 3)) (.const (.int .i64 1)) 3, type := 3, pos := pos, after := #[dat 3], guard := none },
 { dst := some (b + 5), op := .mapEntry 161 (.tmp b) (.tmp (b + 2)), type := 0, pos := pos, after := #[dat 0, dat 2, pha 0, pha 1, pha 2, ⟨3, .textOnly .mapOpAssignEntry⟩, ⟨4, .textOnly .mapOpAssignEntry⟩], guard := none },
 { dst := some (b + 6), op := .extract (.tmp (b + 5)) 1, type := 3, pos := pos, after := #[dat 5], guard := none },
 { dst := none, op := .entryStore 161 (.tmp b) (.tmp (b + 6)) (.tmp (b + 4)), type := 0, pos := pos, after := #[dat 0, dat 6, dat 4, ⟨5, .chain⟩, pha 0, pha 1, pha 2, pha 3, pha 4, pha 5, pha 6], guard := none }]
def m9 : Nat → List Nat
 | 2 => [1] | 3 => [0, 2] | 4 => [3] | 5 => [0, 1, 2] | 6 => [5] | 7 => [0, 1, 2, 3, 4, 5, 6] | _ => []
theorem U9 {b m c ty : Nat} {pos : String} {i : Nat} {o : Oper} (hi : (HL b m c ty pos)[i]? = some o) {S : Nat → Prop} (h : ∀ e ∈ o.after, Region.binds .any e = true → S e.on) : ∀ k ∈ m9 i, S k := by
 have hlt : i < 8 := by
  have := (Array.getElem?_eq_some_iff.1 hi).1
  exact this
 have hb1 : ∀ k, Region.binds .any (dat k) = true := fun k => rfl
 have hb2 : ∀ k, Region.binds .any (pha k) = true := fun k => rfl
 match i, hlt with
 | 0, _ => intro k hk; cases hk
 | 1, _ => intro k hk; cases hk
 | 2, _ =>
  injection hi with hi; subst hi; intro k hk
  simp only [m9, List.mem_cons, List.not_mem_nil, or_false] at hk
  subst hk
  ·exact h (dat 1) (Array.mem_def.2 (List.mem_of_getElem? (i := 0) rfl)) (hb1 _)
 | 3, _ =>
  injection hi with hi; subst hi; intro k hk
  simp only [m9, List.mem_cons, List.not_mem_nil, or_false] at hk
  rcases hk with rfl | rfl
  ·exact h (dat 0) (Array.mem_def.2 (List.mem_of_getElem? (i := 0) rfl)) (hb1 _)
  ·exact h (dat 2) (Array.mem_def.2 (List.mem_of_getElem? (i := 1) rfl)) (hb1 _)
 | 4, _ =>
  injection hi with hi; subst hi; intro k hk
  simp only [m9, List.mem_cons, List.not_mem_nil, or_false] at hk
  subst hk
  ·exact h (dat 3) (Array.mem_def.2 (List.mem_of_getElem? (i := 0) rfl)) (hb1 _)
 | 5, _ =>
  injection hi with hi; subst hi; intro k hk
  simp only [m9, List.mem_cons, List.not_mem_nil, or_false] at hk
  rcases hk with rfl | rfl | rfl
  ·exact h (pha 0) (Array.mem_def.2 (List.mem_of_getElem? (i := 2) rfl)) (hb2 _)
  ·exact h (pha 1) (Array.mem_def.2 (List.mem_of_getElem? (i := 3) rfl)) (hb2 _)
  ·exact h (pha 2) (Array.mem_def.2 (List.mem_of_getElem? (i := 4) rfl)) (hb2 _)
 | 6, _ =>
  injection hi with hi; subst hi; intro k hk
  simp only [m9, List.mem_cons, List.not_mem_nil, or_false] at hk
  subst hk
  ·exact h (dat 5) (Array.mem_def.2 (List.mem_of_getElem? (i := 0) rfl)) (hb1 _)
 | 7, _ =>
  injection hi with hi; subst hi; intro k hk
  simp only [m9, List.mem_cons, List.not_mem_nil, or_false] at hk
  rcases hk with rfl | rfl | rfl | rfl | rfl | rfl | rfl
  ·exact h (pha 0) (Array.mem_def.2 (List.mem_of_getElem? (i := 4) rfl)) (hb2 _)
  ·exact h (pha 1) (Array.mem_def.2 (List.mem_of_getElem? (i := 5) rfl)) (hb2 _)
  ·exact h (pha 2) (Array.mem_def.2 (List.mem_of_getElem? (i := 6) rfl)) (hb2 _)
  ·exact h (pha 3) (Array.mem_def.2 (List.mem_of_getElem? (i := 7) rfl)) (hb2 _)
  ·exact h (pha 4) (Array.mem_def.2 (List.mem_of_getElem? (i := 8) rfl)) (hb2 _)
  ·exact h (pha 5) (Array.mem_def.2 (List.mem_of_getElem? (i := 9) rfl)) (hb2 _)
  ·exact h (pha 6) (Array.mem_def.2 (List.mem_of_getElem? (i := 10) rfl)) (hb2 _)
structure J (b : Nat) (tm0 : List a9) (val : Nat → a9) (H0 H1 H2 : Hp) (l : Array Bool) (tm : List a9) (h : Hp) : Prop where
 sz : l.size = 8
 len : tm.length = tm0.length
 VN : ∀ k, k < 7 → l.getD k false = true → tm[b + k]? = some (val k)
 rest : ∀ x, x < b ∨ b + 7 ≤ x → tm[x]? = tm0[x]?
 dp : ∀ k, l.getD k false = true → ∀ j ∈ m9 k, l.getD j false = true
 heap : h = if l.getD 7 false = true then H2 else if l.getD 5 false = true then H1 else H0
theorem J.put {b : Nat} {tm0 : List a9} {val : Nat → a9} {H0 H1 H2 : Hp} {l : Array Bool} {tm : List a9} {h : Hp} (j : J b tm0 val H0 H1 H2 l tm h) (hb : b + 7 ≤ tm0.length) {i : Nat} (hi : i < 8) (hn : l.getD i false = false) (hd : ∀ k ∈ m9 i, l.getD k false = true)
  {d : Option Tmp} {v : a9} (hdst : (i < 7 ∧ d = some (b + i) ∧ v = val i) ∨ (i = 7 ∧ d = none)) {h' : Hp} (hh : h' = if (i = 7 ∨ l.getD 7 false = true) then H2 else if (i = 5 ∨ l.getD 5 false = true) then H1 else H0) :
  J b tm0 val H0 H1 H2 (l.setIfInBounds i true) (bP tm d v) h' := by
 have get : ∀ k, (l.setIfInBounds i true).getD k false = true ↔ (k = i ∨ l.getD k false = true) := fun k => by
  by_cases hk : k = i
  ·subst hk
   have : k < l.size := by rw [j.sz]; exact hi
   simp [Array.getD, this]
  ·have hk' : ¬ i = k := fun h => hk h.symm
   simp only [hk, false_or, Array.getD_eq_getD_getElem?, Array.getElem?_setIfInBounds, hk']; rw [if_neg (fun w => w)]
 refine ⟨by simpa using j.sz, by rw [qB, j.len], fun k hk hl => ?_, fun x hx => ?_, fun k hl q hq => ?_, ?_⟩
 ·rw [m4]
  rcases hdst with ⟨q1, rfl, rfl⟩ | ⟨q1, rfl⟩
  ·by_cases c : k = i
   ·subst c
    rw [if_pos rfl, if_pos (by rw [j.len]; omega)]
   ·rw [if_neg (fun w => c (by injection w with w; omega))]
    exact j.VN k hk (((get k).1 hl).resolve_left c)
  ·rw [if_neg (fun w => by cases w)]
   exact j.VN k hk (((get k).1 hl).resolve_left (by omega))
 ·rw [m4]
  rcases hdst with ⟨q1, rfl, rfl⟩ | ⟨q1, rfl⟩
  ·rw [if_neg (fun w => by injection w with w; omega)]
   exact j.rest x hx
  ·rw [if_neg (fun w => by cases w)]
   exact j.rest x hx
 ·rcases (get k).1 hl with rfl | hl
  ·exact (get q).2 (.inr (hd q hq))
  ·exact (get q).2 (.inr (j.dp k hl q hq))
 ·rw [hh]
  have e7 : ((l.setIfInBounds i true).getD 7 false = true) ↔ (i = 7 ∨ l.getD 7 false = true) := (get 7).trans (or_congr_left eq_comm)
  have e5 : ((l.setIfInBounds i true).getD 5 false = true) ↔ (i = 5 ∨ l.getD 5 false = true) := (get 5).trans (or_congr_left eq_comm)
  simp only [e7, e5]
theorem AF : ∀ (ts : List Nat) (tm : List a9), (vX tm ts).length = tm.length
 | [], _ => rfl
 | t :: ts, tm => by rw [vX, AF ts, jZ]
theorem AG : ∀ (ts : List Nat) (tm : List a9) (i : Nat) (v : a9), (vX tm ts)[i]? = some v → v = .aA ∨ (i ∉ ts ∧ tm[i]? = some v)
 | [], tm, i, v, h => .inr ⟨List.not_mem_nil, h⟩
 | t :: ts, tm, i, v, h => by
  rcases AG ts _ i v h with h | ⟨h1, h2⟩
  ·exact .inl h
  ·have e := m4 tm (some t) .aA i
   simp only [bP] at e
   rw [e] at h2
   by_cases c : t = i
   ·subst c
    rw [if_pos rfl] at h2
    split at h2
    ·injection h2 with h2; exact .inl h2.symm
    ·cases h2
   ·rw [if_neg (fun w => c (by injection w))] at h2
    exact .inr ⟨fun w => (List.mem_cons.1 w).elim (fun w => c w.symm) h1, h2⟩
theorem PB {ρ : Ren} {m : Mem} {tm tm2 : List a9} {c : Array Value} (h : RL ρ m tm c) (hl : tm2.length = tm.length) (hg : ∀ (i : Nat) (v : a9), tm2[i]? = some v → v = a9.aA ∨ tm[i]? = some v) : RL ρ m tm2 c :=
 ⟨by rw [hl]; exact h.len, fun i v x hv hx => by
  rcases hg i v hv with rfl | hv
  ·exact .aA x
  ·exact h.at_ i v x hv hx⟩
theorem L9 {b mm cc ty : Nat} {pos : String} {tm0 : List a9} {H0 H1 H2 : Hp} {n mid x : Nat} {p : Pt} {z0 st : Int} (hmm : mm < b ∨ b + 7 ≤ mm) (hcc : cc < b ∨ b + 7 ≤ cc) (hlen : b + 7 ≤ tm0.length)
  (hfa : ∀ x, fieldAddr env ty (.ptr x 0) 0 = M.pure (.ptr x 0)) (hm : nth tm0 mm undef = .map mid) (hc : nth tm0 cc undef = .ptr x 0)
  (F1 : Ex (iS env 161 (.map mid) (ptA p) false) H0 n (.int .i64 z0) H0) (F2 : Ex (iS env 161 (.map mid) (ptA p) false) H1 n (.int .i64 z0) H1)
  (F3 : Ex (iR env 161 (.map mid) (ptA p)) H0 n (a9.tup [.int .i64 z0, .int .i64 st]) H1) (F4 : Ex (gO (.map mid) (.int .i64 st) (.int .i64 (IntKind.i64.wrap (z0 + 1)))) H1 n undef H2)
  (F5 : Ex (load env 28 (.ptr x 0)) H0 n (ptA p) H0)
  {val : Nat → a9} (v0 : val 0 = .map mid) (v1 : val 1 = .ptr x 0) (v2 : val 2 = ptA p) (v3 : val 3 = .int .i64 z0) (v4 : val 4 = .int .i64 (IntKind.i64.wrap (z0 + 1))) (v5 : val 5 = a9.tup [.int .i64 z0, .int .i64 st]) (v6 : val 6 = .int .i64 st) :
  ∀ listed tm h, listed.size = (HL b mm cc ty pos).size → J b tm0 val H0 H1 H2 listed tm h → ∀ i o, (HL b mm cc ty pos)[i]? = some o → listed.getD i false = false → (∀ e ∈ o.after, Region.binds .any e = true → listed.getD e.on false = true) →
   ∃ v h', Ex (opV env (aV env) (HL b mm cc ty pos).toList o tm) h n v h' ∧ J b tm0 val H0 H1 H2 (listed.setIfInBounds i true) (bP tm o.dst v) h' := by
 intro listed tm h hsz j i o hi hn hall
 have hd : ∀ k ∈ m9 i, listed.getD k false = true := U9 (S := fun k => listed.getD k false = true) hi hall
 have hi8 : i < 8 := (Array.getElem?_eq_some_iff.1 hi).1
 have nv : ∀ k, k < 7 → listed.getD k false = true → nth tm (b + k) undef = val k := fun k hk hl => by rw [gB, j.VN k hk hl]; rfl
 have nr : ∀ y, y < b ∨ b + 7 ≤ y → nth tm y undef = nth tm0 y undef := fun y hy => by rw [gB, gB, j.rest y hy]
 have no7 : i < 7 → listed.getD 7 false = false := fun q => by
  cases e : listed.getD 7 false with
  | false => rfl
  | true =>
   have := j.dp 7 e i (by simp only [m9, List.mem_cons, List.not_mem_nil, or_false]; omega)
   rw [hn] at this; cases this
 match i, hi8 with
 | 0, _ =>
  injection hi with hi; subst hi
  have h7 := no7 (by omega)
  refine ⟨val 0, h, ?_, j.put hlen (by omega) hn hd (.inl ⟨by omega, rfl, rfl⟩) (by have := j.heap; simpa using this)⟩
  rw [kR rfl, v0]
  show Ex (M.pure (nth tm mm undef)) _ _ _ _
  rw [nr mm hmm, hm]; exact Ex.pure
 | 1, _ =>
  injection hi with hi; subst hi
  refine ⟨val 1, h, ?_, j.put hlen (by omega) hn hd (.inl ⟨by omega, rfl, rfl⟩) (by have := j.heap; simpa using this)⟩
  rw [kR rfl, v1]
  show Ex (fieldAddr env ty (nth tm cc undef) 0) _ _ _ _
  rw [nr cc hcc, hc, hfa]; exact Ex.pure
 | 2, _ =>
  injection hi with hi; subst hi
  have h7 := no7 (by omega)
  have h5 : listed.getD 5 false = false := by
   cases e : listed.getD 5 false with
   | false => rfl
   | true => have := j.dp 5 e 2 (by simp [m9]); rw [hn] at this; cases this
  have hh : h = H0 := by have := j.heap; rw [h7, h5] at this; simpa using this
  refine ⟨val 2, h, ?_, j.put hlen (by omega) hn hd (.inl ⟨by omega, rfl, rfl⟩) (by have := j.heap; simpa using this)⟩
  rw [kR rfl, v2]
  show Ex (load env 28 (nth tm (b + 1) undef)) _ _ _ _
  rw [nv 1 (by omega) (hd 1 (by simp [m9])), v1, hh]; exact F5
 | 3, _ =>
  injection hi with hi; subst hi
  have h7 := no7 (by omega)
  have hh := j.heap
  rw [h7] at hh
  refine ⟨val 3, h, ?_, j.put hlen (by omega) hn hd (.inl ⟨by omega, rfl, rfl⟩) (by have := j.heap; simpa using this)⟩
  rw [kR rfl, v3]
  show Ex (iS env 161 (nth tm b undef) (nth tm (b + 2) undef) false) _ _ _ _
  have n0 : nth tm b undef = .map mid := by have := nv 0 (by omega) (hd 0 (by simp [m9])); rw [v0] at this; exact this
  rw [n0, nv 2 (by omega) (hd 2 (by simp [m9])), v2]
  cases e5 : listed.getD 5 false with
  | false => rw [e5] at hh; rw [show h = H0 by simpa using hh]; exact F1
  | true => rw [e5] at hh; rw [show h = H1 by simpa using hh]; exact F2
 | 4, _ =>
  injection hi with hi; subst hi
  refine ⟨val 4, h, ?_, j.put hlen (by omega) hn hd (.inl ⟨by omega, rfl, rfl⟩) (by have := j.heap; simpa using this)⟩
  rw [kR rfl, v4]
  show Ex (binOp env .add 3 (nth tm (b + 3) undef) (.int .i64 1)) _ _ _ _
  rw [nv 3 (by omega) (hd 3 (by simp [m9])), v3]; exact Ex.pure
 | 5, _ =>
  injection hi with hi; subst hi
  have h7 := no7 (by omega)
  have hh := j.heap
  rw [h7, hn] at hh
  have hh : h = H0 := by simpa using hh
  refine ⟨val 5, H1, ?_, j.put hlen (by omega) hn hd (.inl ⟨by omega, rfl, rfl⟩) (by rw [h7]; simp)⟩
  rw [kR rfl, v5]
  show Ex (iR env 161 (nth tm b undef) (nth tm (b + 2) undef)) _ _ _ _
  have n0 : nth tm b undef = .map mid := by have := nv 0 (by omega) (hd 0 (by simp [m9])); rw [v0] at this; exact this
  have l2 : listed.getD 2 false = true := hd 2 (by simp [m9])
  rw [n0, nv 2 (by omega) l2, v2, hh]; exact F3
 | 6, _ =>
  injection hi with hi; subst hi
  refine ⟨val 6, h, ?_, j.put hlen (by omega) hn hd (.inl ⟨by omega, rfl, rfl⟩) (by have := j.heap; simpa using this)⟩
  rw [kR rfl, v6]
  show Ex (extract (nth tm (b + 5) undef) 1) _ _ _ _
  rw [nv 5 (by omega) (hd 5 (by simp [m9])), v5]; exact Ex.pure
 | 7, _ =>
  injection hi with hi; subst hi
  have hh := j.heap
  rw [hn, hd 5 (by simp [m9])] at hh
  have hh : h = H1 := by simpa using hh
  refine ⟨undef, H2, ?_, j.put hlen (by omega) hn hd (.inr ⟨rfl, rfl⟩) (by simp)⟩
  rw [kR rfl]
  show Ex (gO (nth tm b undef) (nth tm (b + 6) undef) (nth tm (b + 4) undef)) _ _ _ _
  have n0 : nth tm b undef = .map mid := by have := nv 0 (by omega) (hd 0 (by simp [m9])); rw [v0] at this; exact this
  rw [n0, nv 6 (by omega) (hd 6 (by simp [m9])), nv 4 (by omega) (hd 4 (by simp [m9])), v6, v4, hh]; exact F4
theorem F0 (b mm cc ty : Nat) (pos : String) (id : Nat) (rnd : Option Nat) (hmm : mm < b ∨ b + 7 ≤ mm) (hcc : cc < b ∨ b + 7 ≤ cc)
  (hfa : ∀ x, fieldAddr env ty (.ptr x 0) 0 = M.pure (.ptr x 0)) :
  tE env.P rnd (.region id (HL b mm cc ty pos) true) (rP mm cc [b, b + 1, b + 2, b + 3, b + 4, b + 5, b + 6]) := by
 intro tm e tm' s s' h ho ρ m w a o n Q hr hf ht hn hQ
 unfold rP at h
 split at h
 case h_2 => exact (aC h).elim
 rename_i mid hm
 split at h
 case h_2 => exact (aC h).elim
 rename_i x off hc
 split at h
 case h_2 => exact (aC h).elim
 rename_i hchk
 rw [Bool.and_eq_true] at hchk
 have hoff := Nat.eq_of_beq_eq_true hchk.1
 subst hoff
 have hlen : b + 7 ≤ tm.length := by
  have := List.all_eq_true.1 hchk.2 (b + 6) (by simp)
  have : b + 6 + 1 ≤ tm.length := Nat.le_of_ble_eq_true this
  omega
 obtain ⟨bx, s1, h1, h2⟩ := M.aG h
 obtain ⟨hg1, e1⟩ := dE h1
 obtain ⟨bm, s2, h3, h4⟩ := M.aG h2
 obtain ⟨hg2, e2⟩ := dE h3
 split at h4
 case h_2 => exact (aC h4).elim
 rename_i r hb1
 obtain ⟨_, s3, h5, h6⟩ := M.aG h4
 obtain ⟨he, rfl⟩ := aD h6
 injection he with q1 q2
 subst q1; subst q2
 obtain ⟨hlive, hn3, hset⟩ := pN h5
 obtain ⟨cells, t, rfl, hcells, hp32, rfl, hl32⟩ := HJ hb1
 obtain ⟨p, bb, l⟩ := r
 simp only at hcells hp32 hl32 hset hg2 hlive
 rw [e1.heap] at hg2
 have hmap : eP s.heap.get mid bb (l.map cv) := by unfold eP; rw [List.length_map]; exact hg2
 have hkey : ptA p = .agg (cells.take 33) := by rw [hcells]; rfl
 have F5 : Ex (load env 28 (.ptr x 0)) s.heap.get s.next (ptA p) s.heap.get := by
  have hl : 33 ≤ cells.length := by
   have : (cells.take 33).length = 33 := by rw [hcells]; exact bM hp32
   rw [List.length_take] at this; omega
  have := Row.agg (E := env) (n := s.next) (off := 0) (show Row s.heap.get x cells from ⟨t, hg1⟩) gG rfl (by show 0 + 33 ≤ _; omega)
  rw [List.drop_zero] at this
  rw [hkey]
  exact .rd this
 have hpq : ∀ e ∈ l.map cv, bS env 28 (ptA p) e.1 = M.pure (isK (ptA p) e.1) := fun e he => by
  obtain ⟨y, hy, rfl⟩ := List.mem_map.1 he
  exact xB p y.1 hp32 (hl32 y hy)
 have main : ∃ (z0 st : Int) (H1 H2 : Hp), Ex (iS env 161 (.map mid) (ptA p) false) s.heap.get s.next (.int .i64 z0) s.heap.get ∧ Ex (iS env 161 (.map mid) (ptA p) false) H1 s.next (.int .i64 z0) H1 ∧
   Ex (iR env 161 (.map mid) (ptA p)) s.heap.get s.next (a9.tup [.int .i64 z0, .int .i64 st]) H1 ∧ Ex (gO (.map mid) (.int .i64 st) (.int .i64 (IntKind.i64.wrap (z0 + 1)))) H1 s.next undef H2 ∧
   eP H2 mid bb ((bump p l).map cv) ∧ ∀ j, j ≠ mid → H2 j = s.heap.get j := by
  have hat := AH (p := p) l 0
  have L0 := hmap.lookup (n := s.next) FO (vC p hp32) hpq z3o
  cases hi : mO p l 0 with
  | some y =>
   obtain ⟨i, z⟩ := y
   rw [hi] at hat
   obtain ⟨_, hlt, hget⟩ := E6 hi
   rw [Nat.sub_zero] at hlt hget
   rw [hat] at L0
   have w1 := hmap.KY (n := s.next) FO (vC p hp32) hpq hat (fun e he => by
    rw [List.getElem?_map, hget] at he
    injection he with he
    rw [← he]; exact I7 p)
   obtain ⟨H2, w2, m2, k2⟩ := hmap.store (n := s.next) (i := i) (by rw [List.length_map]; exact hlt) (v := .int .i64 (IntKind.i64.wrap (z + 1)))
   refine ⟨z, _, s.heap.get, H2, .rd L0, .rd L0, .wr w1, .wr w2, ?_, k2⟩
   have e : (l.map cv).modify i (fun e => (e.1, a9.int .i64 (IntKind.i64.wrap (z + 1)))) = (bump p l).map cv := by
    unfold bump
    rw [hi]
    refine List.ext_getElem? fun q => ?_
    rw [List.getElem?_modify, List.getElem?_map, List.getElem?_map, List.getElem?_modify]
    cases l[q]? with
    | none => rfl
    | some y =>
     simp only [Option.map_some, Option.map_eq_map]
     by_cases c : i = q
     ·simp only [if_pos c]; rfl
     ·simp only [if_neg c]
   rw [← e]; exact m2
  | none =>
   rw [hi] at hat
   rw [hat] at L0
   obtain ⟨H1, w1, m1, k1⟩ := hmap.KZ (n := s.next) FO (vC p hp32) hpq hat z3o
   have hpq1 : ∀ e ∈ l.map cv ++ [(ptA p, a9.int .i64 0)], bS env 28 (ptA p) e.1 = M.pure (isK (ptA p) e.1) := fun e he => by
    rcases List.mem_append.1 he with he | he
    ·exact hpq e he
    ·rw [List.mem_singleton] at he
     subst he
     exact xB p p hp32 hp32
   have L1 := m1.lookup (n := s.next) FO (vC p hp32) hpq1 z3o
   have hat1 : ∀ (q : List (a9 × a9)) (i : Nat), dJ (isK (ptA p)) q i = none → dJ (isK (ptA p)) (q ++ [(ptA p, a9.int .i64 0)]) i = some (i + q.length, .int .i64 0) := fun q => by
    induction q with
    | nil => intro i _; simp only [List.nil_append, dJ, mN.2 rfl, if_pos, List.length_nil, Nat.add_zero]
    | cons y q ih =>
     intro i hq
     simp only [dJ] at hq
     split at hq
     ·cases hq
     ·rename_i c
      simp only [List.cons_append, dJ, if_neg c, ih (i + 1) hq, List.length_cons]
      rw [show i + 1 + q.length = i + (q.length + 1) by omega]
   rw [hat1 _ _ hat] at L1
   obtain ⟨H2, w2, m2, k2⟩ := m1.store (n := s.next) (i := (l.map cv).length) (by simp) (v := .int .i64 (IntKind.i64.wrap (0 + 1)))
   refine ⟨0, _, H1, H2, .rd L0, .rd L1, .wr w1, .wr w2, ?_, fun j hj => by rw [k2 j hj, k1 j hj]⟩
   have e : (l.map cv ++ [(ptA p, a9.int .i64 0)]).modify (l.map cv).length (fun e => (e.1, a9.int .i64 (IntKind.i64.wrap (0 + 1)))) = (bump p l).map cv := by
    unfold bump
    rw [hi, List.map_append]
    refine List.ext_getElem? fun q => ?_
    rw [List.getElem?_modify]
    by_cases c : q < (l.map cv).length
    ·rw [List.getElem?_append_left c, List.getElem?_append_left c]
     simp only [if_neg (show ¬ (l.map cv).length = q by omega)]; simp
    ·rw [List.getElem?_append_right (by omega), List.getElem?_append_right (by omega)]
     by_cases d : q = (l.map cv).length
     ·subst d
      simp [cv, show IntKind.i64.wrap 1 = 1 from rfl]
     ·rw [List.getElem?_eq_none (by simp only [List.length_cons, List.length_nil]; omega), List.getElem?_eq_none (by simp only [List.map_cons, List.map_nil, List.length_cons, List.length_nil]; omega)]; rfl
   rw [← e]; exact m2
 obtain ⟨z0, st, H1, H2, F1, F2, F3, F4, hm2, hk2⟩ := main
 have hH2 : s'.heap.get = H2 := by
  funext j
  rw [hset j]
  by_cases c : j = mid
  ·subst c
   rw [if_pos rfl]
   have := hm2
   unfold eP at this
   rw [this, List.length_map]
  ·rw [if_neg c, e2.heap, e1.heap, hk2 j c]
 have hnx : s'.next = s.next := by rw [hn3, e2.next, e1.next]
 let val : Nat → a9 := fun k => match k with
  | 0 => .map mid | 1 => .ptr x 0 | 2 => ptA p | 3 => .int .i64 z0 | 4 => .int .i64 (IntKind.i64.wrap (z0 + 1)) | 5 => a9.tup [.int .i64 z0, .int .i64 st] | _ => .int .i64 st
 have plan := L9 (pos := pos) (n := s.next) (val := val) hmm hcc hlen hfa hm hc F1 F2 F3 F4 F5 rfl rfl rfl rfl rfl rfl rfl
 refine wpIn_region_any env.IG (NW (n := s.next) (J := J b tm val s.heap.get H1 H2) (lG (E := env)) plan rfl (ρ₀ := ρ) (m := m) (w₀ := w) (a₀ := a) (fun listed tm1 h1 a1 w1 ρ1 hall hj hr1 ht1 hle hnew hfr hd => ?_) 8 (Array.replicate 8 false) rfl (by simp) a _ ρ s.heap.get tm ?_ hr.drew ht (.refl ρ) (fun _ h => h) (.drew w) rfl)
 ·have hh := hj.heap
  rw [if_pos (hall 7 (show 7 < 8 by decide))] at hh
  subst hh
  refine hQ _ _ _ ρ1 [] ⟨?_, ?_, .normal, hd, .nil m, fun _ => rfl⟩
  ·rw [Mem.dY]
   exact ⟨hle, fun id q => .inl (hnew id q), fun _ _ h => h, by rw [hH2]; exact hr1, hfr, by rw [hnx]; exact Nat.le_refl _⟩
  ·rw [Mem.dY]
   refine PB ht1 (by rw [AF, hj.len]) fun i v hv => ?_
   rcases AG _ _ i v hv with q | ⟨q1, q2⟩
   ·exact .inl q
   ·refine .inr ?_
    rw [hj.rest i (by simp at q1; omega)]
    exact q2
 ·have none : ∀ k, ¬ ((Array.replicate 8 false).getD k false = true) := fun k => by
   by_cases hk : k < 8 <;> simp [Array.getD, hk]
  exact ⟨rfl, rfl, fun k _ q => absurd q (none k), fun _ _ => rfl, fun k q => absurd q (none k), by rw [if_neg (none 7), if_neg (none 5)]⟩
end Go.Am.Ytlgebaofkolkoaa.Ins
set_option linter.unusedSimpArgs false
set_option linter.unusedVariables false
set_option linter.defProp false
set_option maxRecDepth 10000
namespace Go.Am.Ytlgebaofkolkoaa.Ins
open Go Go.Am Go.Proofs
theorem aQ1 (x : Nat) : fieldAddr env 31 (.ptr x 0) 0 = M.pure (.ptr x 0) := rfl
theorem aQ0 (x : Nat) : fieldAddr env 48 (.ptr x 0) 0 = M.pure (.ptr x 0) := rfl
noncomputable def uQ : List a9 → M (eS × List a9) := rP 3 5 [17, 18, 19, 20, 21, 22, 23]
noncomputable def rT : List a9 → M (eS × List a9) := rP 3 8 [73, 74, 75, 76, 77, 78, 79]
noncomputable def BM : pC Try.prog := ⟨113, 4, .region 4 (HL 17 3 5 31 "coin.go:24") true, uQ, fun rnd => F0 17 3 5 31 "coin.go:24" 4 rnd (by omega) (by omega) aQ1⟩
noncomputable def tL : pC Try.prog := ⟨113, 12, .region 12 (HL 73 3 8 48 "coin.go:32") true, rT, fun rnd => F0 73 3 8 48 "coin.go:32" 12 rnd (by omega) (by omega) aQ0⟩
theorem tB {P : Program} (h : pC P) (l : List (pC P)) {c : Code} (hc : h.c = c) (hn : (h.fn.beq h.fn && h.id.beq h.id) = true := by simp) : fP (h :: l) h.fn h.id c = some h.act := by
 unfold fP
 rw [hn]
 simp only [hc, if_pos]
end Go.Am.Ytlgebaofkolkoaa.Ins
set_option linter.unusedSimpArgs false
set_option linter.unusedVariables false
set_option linter.defProp false
set_option maxRecDepth 10000
namespace Go.Am.Ytlgebaofkolkoaa
open Go Go.Am
def iO (a b : Int) : Int := if a < b then -1 else if b < a then 1 else 0
def orI (a b : Int) : Int := if a = 0 then b else a
structure pG {α : Type} (c : α → α → Int) : Prop where
 refl : ∀ a, c a a = 0
 pF : ∀ a b, c b a = - c a b
 lt : ∀ a b d, c a b < 0 → c b d < 0 → c a d < 0
 eqv : ∀ a b d, c a b = 0 → c a d = c b d
theorem uL {a b : Int} : iO a b < 0 ↔ a < b := by unfold iO; split <;> (try split) <;> omega
theorem rO {a b : Int} : iO a b = 0 ↔ a = b := by unfold iO; split <;> (try split) <;> omega
theorem tQ : pG iO where
 refl := fun a => rO.2 rfl
 pF := fun a b => by unfold iO; split <;> (try split) <;> (try split) <;> (try split) <;> omega
 lt := fun a b d h1 h2 => by rw [uL] at *; omega
 eqv := fun a b d h => by rw [rO.1 h]
theorem oT : ∀ a : List UInt8, Go.Lib.compareBytes a a = 0
 | [] => rfl
 | x :: a => by
  simp only [Go.Lib.compareBytes, UInt8.lt_irrefl, if_false]
  exact oT a
theorem CP : ∀ a b : List UInt8, Go.Lib.compareBytes b a = - Go.Lib.compareBytes a b
 | [], [] => rfl
 | [], _ :: _ => rfl
 | _ :: _, [] => rfl
 | x :: a, y :: b => by
  simp only [Go.Lib.compareBytes]
  by_cases h1 : x < y
  ·have h2 : ¬ y < x := fun h => by rw [UInt8.lt_iff_toNat_lt] at *; omega
   rw [if_pos h1, if_neg h2, if_pos h1]; rfl
  ·by_cases h2 : y < x
   ·rw [if_pos h2, if_neg h1, if_pos h2]
   ·rw [if_neg h1, if_neg h2, if_neg h2, if_neg h1]; exact CP a b
theorem B0 : ∀ a b : List UInt8, Go.Lib.compareBytes a b = 0 → a = b
 | [], [], _ => rfl
 | [], _ :: _, h => by simp [Go.Lib.compareBytes] at h
 | _ :: _, [], h => by simp [Go.Lib.compareBytes] at h
 | x :: a, y :: b, h => by
  simp only [Go.Lib.compareBytes] at h
  by_cases h1 : x < y
  ·rw [if_pos h1] at h; omega
  ·rw [if_neg h1] at h
   by_cases h2 : y < x
   ·rw [if_pos h2] at h; omega
   ·rw [if_neg h2] at h
    have e : x = y := by
     apply UInt8.toNat_inj.1
     rw [UInt8.lt_iff_toNat_lt] at *; omega
    rw [e, B0 a b h]
theorem R1 : ∀ a b d : List UInt8, Go.Lib.compareBytes a b < 0 → Go.Lib.compareBytes b d < 0 → Go.Lib.compareBytes a d < 0
 | [], [], d, h, _ => by simp [Go.Lib.compareBytes] at h
 | [], _ :: _, [], _, h => by simp [Go.Lib.compareBytes] at h
 | [], _ :: _, _ :: _, _, _ => by simp [Go.Lib.compareBytes]
 | _ :: _, [], _, h, _ => by simp [Go.Lib.compareBytes] at h
 | _ :: _, _ :: _, [], _, h => by simp [Go.Lib.compareBytes] at h
 | x :: a, y :: b, z :: d, h1, h2 => by
  simp only [Go.Lib.compareBytes] at *
  by_cases p : x < y
  ·by_cases q : y < z
   ·rw [if_pos (by rw [UInt8.lt_iff_toNat_lt] at *; omega)]; decide
   ·by_cases q2 : z < y
    ·rw [if_neg q, if_pos q2] at h2; omega
    ·rw [if_pos (by rw [UInt8.lt_iff_toNat_lt] at *; omega)]; decide
  ·by_cases p2 : y < x
   ·rw [if_neg p, if_pos p2] at h1; omega
   ·rw [if_neg p, if_neg p2] at h1
    by_cases q : y < z
    ·rw [if_pos (by rw [UInt8.lt_iff_toNat_lt] at *; omega)]; decide
    ·by_cases q2 : z < y
     ·rw [if_neg q, if_pos q2] at h2; omega
     ·rw [if_neg q, if_neg q2] at h2
      rw [if_neg (by rw [UInt8.lt_iff_toNat_lt] at *; omega), if_neg (by rw [UInt8.lt_iff_toNat_lt] at *; omega)]
      exact R1 a b d h1 h2
theorem rC : pG Go.Lib.compareBytes := ⟨oT, CP, R1, fun a b d h => by rw [B0 a b h]⟩
theorem pG.or {α : Type} {c1 c2 : α → α → Int} (a1 : pG c1) (a2 : pG c2) : pG (fun a b => orI (c1 a b) (c2 a b)) where
 refl := fun a => by simp [orI, a1.refl, a2.refl]
 pF := fun a b => by
  have h1 := a1.pF a b
  have h2 := a2.pF a b
  simp only [orI]
  by_cases h : c1 a b = 0
  ·rw [if_pos (by omega), if_pos h, h2]
  ·rw [if_neg (by omega), if_neg h, h1]
 lt := fun a b d h1 h2 => by
  simp only [orI] at *
  by_cases e1 : c1 a b = 0
  ·rw [if_pos e1] at h1
   rw [a1.eqv a b d e1]
   by_cases e2 : c1 b d = 0
   ·rw [if_pos e2] at h2 ⊢
    exact a2.lt a b d h1 h2
   ·rw [if_neg e2] at h2 ⊢
    exact h2
  ·rw [if_neg e1] at h1
   by_cases e2 : c1 b d = 0
   ·have e3 : c1 d a = c1 b a := by
     have := a1.eqv b d a e2
     exact this.symm
    have e4 := a1.pF d a
    have e5 := a1.pF b a
    rw [if_neg (by omega)]; omega
   ·rw [if_neg e2] at h2
    have := a1.lt a b d h1 h2
    rw [if_neg (by omega)]; exact this
 eqv := fun a b d h => by
  simp only [orI] at *
  by_cases e1 : c1 a b = 0
  ·rw [if_pos e1] at h
   rw [a1.eqv a b d e1, a2.eqv a b d h]
  ·rw [if_neg e1] at h; exact absurd h e1
theorem pG.on {α β : Type} {c : β → β → Int} (o : pG c) (f : α → β) : pG (fun a b => c (f a) (f b)) := ⟨fun a => o.refl _, fun a b => o.pF _ _, fun a b d => o.lt _ _ _, fun a b d => o.eqv _ _ _⟩
theorem pG.eqr {α : Type} {c : α → α → Int} (o : pG c) {a b d : α} (h : c a b = 0) : c d a = c d b := by
 have h1 := o.eqv a b d h
 have h2 := o.pF a d
 have h3 := o.pF b d
 omega
end Go.Am.Ytlgebaofkolkoaa
set_option linter.unusedSimpArgs false
set_option linter.unusedVariables false
set_option linter.defProp false
set_option maxRecDepth 10000
namespace Go.Am.Ytlgebaofkolkoaa.Ins
open Go Go.Am Go.Proofs
abbrev Sc := List UInt8 × Int
def wO (b e : Sc) : Int := orI (iO b.2 e.2) (Go.Lib.compareBytes e.1 b.1)
def bet (b e : Sc) : Sc := if wO b e < 0 then e else b
theorem T7 : pG wO := (tQ.on Prod.snd).or ⟨fun a => oT _, fun a b => CP _ _, fun a b d h1 h2 => R1 _ _ _ h2 h1, fun a b d h => by
 have e := B0 _ _ h
 show Go.Lib.compareBytes d.1 a.1 = Go.Lib.compareBytes d.1 b.1
 rw [e]⟩
theorem UE {a b : Sc} (h : wO a b = 0) : a = b := by
 unfold wO orI at h
 split at h
 ·rename_i c
  have e1 := rO.1 c
  have e2 := B0 _ _ h
  exact Prod.ext e2.symm e1
 ·contradiction
theorem S5 (b x y : Sc) : bet (bet b x) y = bet (bet b y) x := by
 have tr := T7.lt
 have an := T7.pF
 unfold bet
 by_cases h1 : wO b x < 0
 ·rw [if_pos h1]
  by_cases h2 : wO b y < 0
  ·rw [if_pos h2]
   have h4 := an x y
   by_cases h3 : wO x y < 0
   ·rw [if_pos h3, if_neg (by omega)]
   ·rw [if_neg h3]
    by_cases h5 : wO y x < 0
    ·rw [if_pos h5]
    ·rw [if_neg h5]
     exact UE (by omega)
  ·rw [if_neg h2, if_pos h1]
   by_cases h3 : wO x y < 0
   ·exact absurd (tr b x y h1 h3) h2
   ·rw [if_neg h3]
 ·rw [if_neg h1]
  by_cases h2 : wO b y < 0
  ·rw [if_pos h2]
   by_cases h3 : wO y x < 0
   ·exact absurd (tr b y x h2 h3) h1
   ·rw [if_neg h3]
  ·rw [if_neg h2, if_neg h1]
theorem LG {l l' : List Sc} (h : l.Perm l') (b : Sc) : l.foldl bet b = l'.foldl bet b := by
 induction h generalizing b with
 | nil => rfl
 | cons x _ ih => exact ih _
 | swap x y l => simp only [List.foldl_cons]; rw [S5]
 | trans _ _ ih1 ih2 => exact (ih1 b).trans (ih2 b)
theorem LU : und env 147 = M.pure (.slice 3) := rfl
theorem z3 : sizeOf env 3 = M.pure 1 := rfl
theorem f63 (id : Nat) (a b : Int) (e : TypeId) (h : Hp) (n : Nat) (hr : h id = some (.row (.l [.int .i64 a, .int .i64 b]) e)) : Wp (bH env (aV env) 63 [.sl id 0 2 (some 2) 1]) h n fun v' h' n' => v' = .int .i64 (orI a b) ∧ h' = h ∧ n' = n := by
 refine aU aa5 ZX ?_
 have hs : Rds h 1 (.sl id 0 2 (some 2) 1) 2 [.int .i64 a, .int .i64 b] := kY hr rfl
 have i0 := hs.idx (E := env) LU z3 (kk := .i64) (z := 0) (j := 0) rfl (by omega) (h' := h) (n' := n)
 have i1 := hs.idx (E := env) LU z3 (kk := .i64) (z := 1) (j := 1) rfl (by omega) (h' := h) (n' := n)
 have l0 := hs.load (E := env) ti3 rfl (k := 0 * 1) (n := n) rfl
 have l1 := hs.load (E := env) ti3 rfl (k := 1 * 1) (n := n) rfl
 have w1 : IntKind.i64.wrap 1 = 1 := by decide
 have w2 : IntKind.i64.wrap 2 = 2 := by decide
 by_cases ha : a = 0
 ·subst ha
  by_cases hb : b = 0
  ·subst hb
   simp only [yA, Try.f63, Option.getD_some, List.replicate, bI, fgr, execOp, opd, fH, ofValue, bP, put, nth, aF, dS, builtin, rZ, blr, bor, fC, fG, intOp, bZ, ended, dK, dT, List.cons_append, List.nil_append, List.length_cons, List.length_nil, Nat.reduceSub, Int.cast_ofNat_Int, ↓reduceIte, Int.reduceLT, Int.reduceAdd, decide_true, decide_false, and_self, Nat.zero_add, Nat.zero_mul, aT, bne_self_eq_false, bO, aE i0, aE i1, aE l0, aE l1, orI, w1, w2]
  ·simp only [yA, Try.f63, Option.getD_some, List.replicate, bI, fgr, execOp, opd, fH, ofValue, bP, put, nth, aF, dS, builtin, rZ, blr, bor, fC, fG, intOp, bZ, ended, dK, dT, List.cons_append, List.nil_append, List.length_cons, List.length_nil, Nat.reduceSub, Int.cast_ofNat_Int, CB, ↓reduceIte, Int.reduceLT, Int.reduceAdd, not_false_eq_true, decide_true, and_self, Nat.zero_add, Nat.zero_mul, aT, bne_self_eq_false, bO, aE i0, aE i1, aE l0, aE l1, orI, w1, hb]
 ·simp only [yA, Try.f63, Option.getD_some, List.replicate, bI, fgr, execOp, opd, fH, ofValue, bP, put, nth, aF, dS, builtin, rZ, blr, bor, fC, fG, intOp, ended, dK, dT, List.cons_append, List.nil_append, List.length_cons, List.length_nil, Nat.reduceSub, Int.cast_ofNat_Int, CB, ↓reduceIte, Int.reduceLT, not_false_eq_true, decide_true, and_self, Nat.zero_add, Nat.zero_mul, aT, bO, aE i0, aE l0, orI, ha]
theorem f97 (h : Hp) (n : Nat) (x : Int) : Wp (bH env (aV env) 97 [.int .i64 x]) h n fun v' h' n' => v' = .bool false ∧ h' = h ∧ n' = n := by
 refine aU ap4 al0 ?_
 simp only [KP, Try.f97, Option.getD_some, List.replicate, bI, fgr, execOp, opd, ofValue, bP, put, nth, aF, bor, fC, fG, intOp, ended, dK, dT, List.cons_append, List.nil_append, List.length_cons, List.length_nil, Nat.reduceSub, decide_true, and_self, Nat.zero_add, aT, bne_self_eq_false]
theorem f64 (h : Hp) (n : Nat) (x y : Int) : Wp (bH env (aV env) 64 [.int .i64 x, .int .i64 y]) h n fun v' h' n' => v' = .int .i64 (iO x y) ∧ h' = h ∧ n' = n := by
 refine aU ap6 al2 ?_
 by_cases c1 : x < y
 ·simp only [ED, Try.f64, Option.getD_some, List.replicate, bI, fgr, hkr, execOp, opd, fH, ofValue, bP, put, nth, aF, dS, eB, bor, fC, fG, intOp, ended, dK, dT, List.cons_append, List.nil_append, List.append_nil, List.length_cons, List.length_nil, Nat.reduceAdd, Nat.reduceSub, ↓reduceIte, Int.reduceNeg, decide_true, and_self, Nat.zero_add, aT, kH (f97 _ _ _), c1, iO]
 ·by_cases c2 : y < x
  ·simp only [ED, Try.f64, Option.getD_some, List.replicate, bI, fgr, hkr, execOp, opd, fH, ofValue, bP, put, nth, aF, dS, eB, bor, fC, fG, intOp, ended, dK, dT, List.cons_append, List.nil_append, List.append_nil, List.length_cons, List.length_nil, Nat.reduceAdd, Nat.reduceSub, ↓reduceIte, Int.reduceNeg, gt_iff_lt, decide_true, decide_false, and_self, Nat.zero_add, aT, kH (f97 _ _ _), c1, c2, iO]
  ·simp only [ED, Try.f64, Option.getD_some, List.replicate, bI, fgr, hkr, execOp, opd, fH, ofValue, bP, put, nth, aF, dS, eB, bor, fC, fG, intOp, ended, dK, dT, List.cons_append, List.nil_append, List.append_nil, List.length_cons, List.length_nil, Nat.reduceAdd, Nat.reduceSub, ↓reduceIte, Int.reduceNeg, gt_iff_lt, decide_true, decide_false, and_self, Nat.zero_add, aT, kH (f97 _ _ _), c1, c2, iO]
theorem f98 (h : Hp) (n : Nat) (a b : List UInt8) : Wp (bH env (aV env) 98 [.str a, .str b]) h n fun v' h' n' => v' = .int .i64 (Go.Lib.compareBytes a b) ∧ h' = h ∧ n' = n := by
 refine aU ap3 ak9 ?_
 simp only [KO, Try.f98, Option.getD_some, List.replicate, bI, fgr, hkr, execOp, opd, fH, ofValue, bP, put, nth, aF, dS, eB, ended, dK, dT, List.cons_append, List.nil_append, List.append_nil, List.length_cons, List.length_nil, Nat.reduceAdd, Nat.reduceSub, and_self, Nat.zero_add, aT, cN, iE]
theorem f65 (h : Hp) (n : Nat) (a b : List UInt8) : Wp (bH env (aV env) 65 [.str a, .str b]) h n fun v' h' n' => v' = .int .i64 (Go.Lib.compareBytes a b) ∧ h' = h ∧ n' = n := by
 refine aU ap5 al1 ?_
 simp only [KQ, Try.f65, Option.getD_some, List.replicate, bI, fgr, hkr, execOp, opd, fH, ofValue, bP, put, nth, aF, dS, eB, ended, dK, dT, List.cons_append, List.nil_append, List.append_nil, List.length_cons, List.length_nil, Nat.reduceAdd, Nat.reduceSub, and_self, Nat.zero_add, aT, kH (f98 _ _ _ _)]
end Go.Am.Ytlgebaofkolkoaa.Ins
set_option linter.unusedSimpArgs false
set_option linter.unusedVariables false
set_option linter.defProp false
set_option maxRecDepth 10000
namespace Go.Am.Ytlgebaofkolkoaa.Ins
open Go Go.Am Go.Proofs
noncomputable def b5 : Code := match sU with
 | .seq _ (.seq _ (.block _ c)) => c
 | _ => .skip
def zL : Oper := { dst := some 59, op := .next (.tmp 58) false, type := 0, pos := "store.go:175", after := #[], guard := none }
def DW : Oper := { dst := some 60, op := .extract (.tmp 59) 0, type := 4, pos := "store.go:175", after := #[{ on := 0, ground := .data }], guard := none }
theorem XI : sU = .seq (.region 14 #[zL, DW] false) (.seq (.cond (.tmp 60) .skip (.exit 4)) (.block 5 b5)) := rfl
theorem QC {it mm ck st : Nat} {es : List Ent} {seen : List Nat} {k x : a9} {h : Hp} {n : Nat} (g1 : h it = some (.hG mm ck (seen ++ [st]) ck)) (g2 : h mm = some (.map es ck)) (g3 : es.find? (fun e => e.2.2.beq st) = some (k, x, st)) :
  Rd (CJ (.ptr it 0)) h n ([] ++ [mm] ++ [it]) (.tup [k, x]) := by
 have key : Rd ((eQ it).bind fun b => match b with
   | .hG mm _ seen gL => (eQ mm).bind fun c => match c with
    | .map es ck => match ck.beq gL with
     | true => (fV "entry" seen.getLast?).bind fun st => (fV "entry" (es.find? fun e => e.2.2.beq st)).bind fun e => M.pure (a9.tup [e.1, e.2.1])
     | false => bD "entry"
    | _ => bD "entry"
   | _ => bD "entry") h n ([] ++ [mm] ++ [it]) (.tup [k, x]) := by
  refine Rd.bind (Rd.get g1) ?_
  refine Rd.bind (Rd.get g2) ?_
  have e1 : ck.beq ck = true := Nat.beq_refl ck
  have e2 : (seen ++ [st]).getLast? = some st := List.getLast?_concat
  simp only [e1, e2, g3, fV, aB]
  exact Rd.pure _
 exact key
theorem ay0 (rnd : Option Nat) (Q : dI) (it mm ck st : Nat) (es : List Ent) (seen : List Nat) (s : List UInt8) (v : Int) (b : Sc) (h : Hp) (n : Nat) (x0 x1 x2 x6 x7 x9 x10 x12 x13 x16 x17 x25 x33 x34 x35 x36 x56 x60 x72 : a9) (g1 : h it = some (.hG mm ck (seen ++ [st]) ck)) (g2 : h mm = some (.map es ck)) (g3 : es.find? (fun e => e.2.2.beq st) = some (.str s, .int .i64 v, st)) (hf : aY h n)
  (hQ : ∀ (y16 y17 y72 : a9) (c : Blk), Q .normal (x0 :: x1 :: x2 :: a9.aA :: a9.aA :: a9.aA :: x6 :: x7 :: a9.aA :: x9 :: x10 :: a9.aA :: x12 :: x13 :: .str (bet b (s, v)).1 :: .int .i64 (bet b (s, v)).2 :: y16 :: y17 :: a9.aA :: a9.aA :: a9.aA :: a9.aA :: a9.aA :: a9.aA :: a9.aA :: x25 :: a9.aA :: a9.aA :: a9.aA :: a9.aA :: a9.aA :: a9.aA :: a9.aA :: x33 :: x34 :: x35 :: x36 :: a9.aA :: a9.aA :: a9.aA :: a9.aA :: a9.aA :: a9.aA :: a9.aA :: a9.aA :: a9.aA :: a9.aA :: a9.aA :: a9.aA :: a9.aA :: a9.aA :: a9.aA :: a9.aA :: a9.aA :: a9.aA :: a9.aA :: x56 :: a9.aA :: .ptr it 0 :: a9.aA :: x60 :: a9.aA :: a9.aA :: a9.aA :: a9.aA :: a9.aA :: a9.aA :: a9.aA :: a9.aA :: a9.aA :: a9.aA :: a9.aA :: y72 :: a9.aA :: a9.aA :: a9.aA :: a9.aA :: a9.aA :: a9.aA :: a9.aA :: a9.aA :: a9.aA :: a9.aA :: a9.aA :: a9.aA :: []) (upd h n (some c)) (n + 1)) :
  Run env 17 rnd Q (.block 5 b5) [] (x0 :: x1 :: x2 :: a9.aA :: a9.aA :: a9.aA :: x6 :: x7 :: a9.aA :: x9 :: x10 :: a9.aA :: x12 :: x13 :: .str b.1 :: .int .i64 b.2 :: x16 :: x17 :: a9.aA :: a9.aA :: a9.aA :: a9.aA :: a9.aA :: a9.aA :: a9.aA :: x25 :: a9.aA :: a9.aA :: a9.aA :: a9.aA :: a9.aA :: a9.aA :: a9.aA :: x33 :: x34 :: x35 :: x36 :: a9.aA :: a9.aA :: a9.aA :: a9.aA :: a9.aA :: a9.aA :: a9.aA :: a9.aA :: a9.aA :: a9.aA :: a9.aA :: a9.aA :: a9.aA :: a9.aA :: a9.aA :: a9.aA :: a9.aA :: a9.aA :: a9.aA :: x56 :: a9.aA :: .ptr it 0 :: a9.aA :: x60 :: a9.aA :: a9.aA :: a9.aA :: a9.aA :: a9.aA :: a9.aA :: a9.aA :: a9.aA :: a9.aA :: a9.aA :: a9.aA :: x72 :: a9.aA :: a9.aA :: a9.aA :: a9.aA :: a9.aA :: a9.aA :: a9.aA :: a9.aA :: a9.aA :: a9.aA :: a9.aA :: a9.aA :: []) h n := by
 simp only [b5, sU, bC, Try.f17, Option.getD_some, bI, fgr, execOp, opd, nth, List.append_eq, List.cons_append, List.nil_append, List.append_nil, Int.reduceNeg, List.getD_cons_zero, List.getD_cons_succ]
 rw [aE (QC g1 g2 g3)]
 simp only [bI, fgr, hkr, execOp, opd, fH, bP, put, nth, aF, dS, eB, extract, fV, List.getElem?_cons_succ, List.getElem?_cons_zero, List.nil_append, List.append_nil]
 rw [kH (f64 h n b.2 v)]
 simp only [bI, hkr, execOp, opd, fH, bP, put, nth, dS, eB, List.nil_append, List.append_nil]
 rw [kH (f65 h n s b.1)]
 simp only [bI, tyr, execOp, opd, zK, bP, put, nth, und, cel, fV, List.cons_append, List.nil_append, List.append_nil, List.length_cons, List.length_nil, Nat.reduceAdd, Nat.beq, Bool.not_false, Bool.and_true, Bool.true_and, Nat.zero_add, Nat.zero_mul, buildSlice, eY, fill, List.take_succ_cons, List.take_zero, List.drop_succ_cons, List.drop_zero, Nat.ble, Nat.one_mul, List.length_cons, List.length_nil, Nat.zero_mul]
 refine gT ti3 hf (f := fun id => a9.sl id 0 2 (some 2) 1) fun H r o f => ?_
 have eH : H = upd h n (some (.row (.l [.int .i64 (iO b.2 v), .int .i64 (Go.Lib.compareBytes s b.1)]) 3)) := funext fun j => by
  by_cases c : j = n
  ·subst c; rw [aO]; exact r
  ·rw [aH _ _ c]; exact o j c
 simp only [bI, hkr, execOp, opd, fH, bP, put, nth, dS, eB, List.nil_append, List.append_nil]
 refine dA (f63 n _ _ 3 H _ r) ?_
 simp only [bI, fgr, execOp, opd, ofValue, bP, put, nth, aF, bor, fC, fG, intOp, decide_true]
 subst eH
 have hb : bet b (s, v) = if orI (iO b.2 v) (Go.Lib.compareBytes s b.1) < 0 then (s, v) else b := rfl
 by_cases c : orI (iO b.2 v) (Go.Lib.compareBytes s b.1) < 0
 ·simp only [bI, fgr, execOp, opd, bP, put, nth, aF, decide_true, c]
  rw [if_pos c] at hb
  rw [hb] at hQ
  exact hQ _ _ _ _
 ·simp only [bI, decide_false, c]
  rw [if_neg c] at hb
  rw [hb] at hQ
  exact hQ _ _ _ _
end Go.Am.Ytlgebaofkolkoaa.Ins
set_option linter.unusedSimpArgs false
set_option linter.unusedVariables false
set_option linter.defProp false
set_option maxRecDepth 10000
namespace Go.Am.Ytlgebaofkolkoaa.Ins
open Go Go.Am Go.Proofs
theorem Rel.sub {P : Program} {ρ : Ren} {m : Mem} {h h' : Hp} {w : World} (hr : Rel P ρ m h w) (hs : ∀ id b, h' id = some b → h id = some b) : Rel P ρ m h' w :=
 ⟨fun id b hb => hr.dL id b (hs id b hb), fun i j b c r r' hi hj => hr.inj i j b c r r' (hs i b hi) (hs j c hj), hr.mem⟩
theorem K8 {P : Program} {ρ : Ren} {m : Mem} {h : Hp} {w : World} {it mm ck : Nat} {es : List Ent} {seen : List Nat} {x : Value} (hr : Rel P ρ m h w) (hx : R ρ m (.ptr it 0) x)
  (g1 : h it = some (.hG mm ck seen ck)) (g2 : h mm = some (.map es ck)) (hb : ∀ e ∈ es, e.2.2 < ck) (ty : TypeId) :
  ((∀ e ∈ es, e.2.2 ∈ seen) ∧ (Instr.next x false ty).run P w = .ok (.tuple #[.bool false]) w) ∨
  ∃ e ∈ es, e.2.2 ∉ seen ∧ ∃ k v w', (Instr.next x false ty).run P w = .ok (.tuple #[.bool true, k, v]) w' ∧ Rel P ρ m (upd h it (some (.hG mm ck (seen ++ [e.2.2]) ck))) w' ∧ Fr w w' := by
 cases hx with
 | ptr _ _ r hρ =>
 obtain ⟨rb, o, q1, q2, q3, q4⟩ := hr.dL it _ g1
 rw [hρ] at q1
 injection q1 with q1
 subst q1
 cases q3 with
 | hG _ _ _ _ r2 hρ2 =>
 obtain ⟨rb2, o2, p1, p2, p3, p4⟩ := hr.dL mm _ g2
 rw [hρ2] at p1
 injection p1 with p1
 subst p1
 cases p3 with
 | map _ _ arr hl hme =>
 have born : ∀ (i : Nat) (hi : i < es.length) (hi' : i < arr.size), arr[i].born = es[i].2.2 := fun i hi hi' => (hme i es[i] arr[i] (List.getElem?_eq_getElem hi) (Array.getElem?_eq_getElem hi')).born
 have hold : ∀ y ∈ arr.toList, y.born < ck := fun y hy => by
  obtain ⟨i, hi, rfl⟩ := List.mem_iff_getElem.1 hy
  have hi' : i < arr.size := by simpa using hi
  have := born i (by omega) hi'
  rw [Array.getElem_toList, this]
  exact hb _ (List.getElem_mem _)
 rcases run_next_at (P := P) w ty r.b r2.b ck ck seen.toArray arr ck q2 p2 hold (Nat.le_refl _) with ⟨h0, hrun⟩ | ⟨e, he, w1, hw, hrun⟩
 ·refine .inl ⟨fun e he => ?_, hrun⟩
  obtain ⟨i, hi, rfl⟩ := List.mem_iff_getElem.1 he
  have hi' : i < arr.size := by omega
  have h1 : leftOf arr seen.toArray = #[] := Array.eq_empty_of_size_eq_zero h0
  unfold leftOf at h1
  rw [Array.filter_eq_empty_iff] at h1
  have := h1 arr[i] (Array.getElem_mem hi')
  rw [born i hi hi'] at this
  simpa using this
 ·have he' : e ∈ leftOf arr seen.toArray := by simpa using he
  unfold leftOf at he'
  rw [Array.mem_filter] at he'
  obtain ⟨h1, h2⟩ := he'
  obtain ⟨i, hi', rfl⟩ := Array.mem_iff_getElem.1 h1
  have hi : i < es.length := by omega
  refine .inr ⟨es[i], List.getElem_mem hi, ?_, _, _, _, hrun, ?_, ?_⟩
  ·rw [← born i hi hi']
   simpa using h2
  ·have hr1 : Rel P ρ m h w1 := by
    rcases hw with rfl | rfl
    ·exact hr
    ·exact ⟨hr.dL, hr.inj, hr.mem⟩
   refine hr1.upd g1 hρ (b := .hG mm ck (seen ++ [es[i].2.2]) ck) ?_ fun j => rfl
   rw [born i hi hi']
   have : seen.toArray.push es[i].2.2 = (seen ++ [es[i].2.2]).toArray := by simp
   rw [this]
   exact .hG _ _ _ _ _ r2 hρ2
  ·have f1 : Fr w w1 := by
    rcases hw with rfl | rfl
    ·exact .refl _
    ·exact ⟨rfl, rfl, rfl, Nat.le_refl _⟩
   exact f1.trans (World.pH _ _ _)
end Go.Am.Ytlgebaofkolkoaa.Ins
set_option linter.unusedSimpArgs false
set_option linter.unusedVariables false
set_option linter.defProp false
set_option maxRecDepth 10000
namespace Go.Am.Ytlgebaofkolkoaa.Ins
open Go Go.Am Go.Proofs
def dec (e : Ent) : Sc := match e.1 with
 | .str s => match e.2.1 with
  | .int _ v => (s, v)
  | _ => ([], 0)
 | _ => ([], 0)
structure Fit (es : List Ent) (ck : Nat) : Prop where
 e : ∀ x ∈ es, x.1 = .str (dec x).1 ∧ x.2.1 = .int .i64 (dec x).2 ∧ x.2.2 < ck
 d : (es.map fun x => x.2.2).Nodup
theorem yD : ∀ {es : List Ent} {e : Ent}, e ∈ es → (es.map fun x => x.2.2).Nodup → es.find? (fun x => x.2.2.beq e.2.2) = some e
 | x :: es, e, he, hd => by
  rw [List.find?_cons]
  by_cases c : x.2.2 = e.2.2
  ·rw [c, Nat.beq_refl]
   rcases List.mem_cons.1 he with q | q
   ·rw [q]
   ·rw [List.map_cons, List.nodup_cons] at hd
    exact absurd (List.mem_map.2 ⟨e, q, c.symm⟩) hd.1
  ·rw [show x.2.2.beq e.2.2 = false from kF c]
   rcases List.mem_cons.1 he with q | q
   ·exact absurd (by rw [q]) c
   ·rw [List.map_cons, List.nodup_cons] at hd
    exact yD q hd.2
theorem N5 {α : Type} {x : M α} {h : Hp} {n : Nat} {Q : α → Hp → Nat → Prop} (hw : Wp x (fun id => if id < n then h id else none) n Q) {k : Nat} (hk : ∀ a h' n', Q a h' n' → n' ≤ n + k) (hf : ∀ id, n ≤ id → id < n + k → h id = none) :
  ∃ a t' hR, x.run (at0 h n) = .ok a t' ∧ bT t' ∧ Q a hR t'.next ∧ (∀ id, id < n → t'.heap.get id = hR id) ∧ (∀ id, n ≤ id → id < t'.next → t'.heap.get id = hR id) ∧ ∀ id, t'.next ≤ id → n ≤ id → t'.heap.get id = h id := by
 obtain ⟨a, s', he, hq⟩ := eG.1 hw
 obtain ⟨r, wr, ob, d⟩ := x.loc _ _ _ he.run
 have hn' := hk _ _ _ hq
 have lo : ∀ id, ((fun id => if id < n then h id else none) : Hp) id ≠ none → id < n := fun id q => by
  by_cases c : id < n
  ·exact c
  ·exact absurd (if_neg c) q
 obtain ⟨t', e1, e2, e3, e4, e5, e6, e7, e8⟩ := d.sJ (at0 h n) rfl rfl fun id hid => by
  show h id = if id < n then h id else none
  by_cases c : id < n
  ·rw [if_pos c]
  ·rw [if_neg c]
   have nw : New (at0 (fun id => if id < n then h id else none) n) s' id → h id = none := fun q => by
    have q1 : n ≤ id := q.1
    have q2 := q.2
    exact hf id q1 (by omega)
   rcases hid with q | q | q
   ·rcases d.vU id q with u | u
    ·exact absurd (lo id u) c
    ·exact nw u
   ·rcases d.dL id q with u | u
    ·exact absurd (lo id u) c
    ·exact nw u
   ·exact nw q
 refine ⟨a, t', s'.heap.get, e1, ?_, by rw [e2]; exact hq, fun id hid => ?_, fun id h1 h2 => e7 id (.inr ⟨h1, by rw [← e2]; exact h2⟩), fun id h1 h2 => ?_⟩
 ·obtain ⟨o2, ho2, ho3⟩ := he.obs
  have : ob = o2 := by
   have := d.obs
   rw [ho2] at this
   exact (List.append_cancel_right this).symm
  unfold bT
  rw [e6, this]
  simpa [at0] using ho3
 ·by_cases c : id ∈ wr ∨ New (at0 (fun id => if id < n then h id else none) n) s' id
  ·exact e7 id c
  ·simp only [not_or] at c
   rw [e8 id c.1 c.2, d.rest id c.1 c.2]
   show h id = if id < n then h id else none
   rw [if_pos hid]
 ·refine e8 id (fun q => ?_) (fun q => by have := q.2; omega)
  rcases d.dL id q with u | u
  ·have := lo id u; omega
  ·have := u.2; omega
theorem _root_.Go.Am.j6.st {P : Program} {ρ : Ren} {m : Mem} {s : St} {w : World} {o : Option Nat} {a : Act} {e : eS} {tm : List a9} {s1 s2 : St} {e' : Exit} {a' : Act} {w' : World} {ρ' : Ren} {D : List Nat} (h : j6 P ρ m s w o a e tm s1 e' a' w' ρ' D) (hh : s2.heap.get = s1.heap.get) (hn : s2.next = s1.next) : j6 P ρ m s w o a e tm s2 e' a' w' ρ' D :=
 ⟨⟨h.fA.ren, fun id q => (h.fA.new id q).imp (fun u => u) fun u => ⟨u.1, by rw [hn]; exact u.2⟩, h.fA.mem, by rw [hh]; exact h.fA.rel, h.fA.fr, by rw [hn]; exact h.fA.next⟩, h.tmps, h.ex, h.defers, h.tW, h.inRound⟩
theorem DV (n1 : Nat) (h2 : Hp) (ρ : Ren) (m : Mem) (w : World) (a : Act) (o : Option Nat) (n : Nat) (Q : Exit → Act → World → Prop) (bb : Bool) (l : List a9) (x0 x1 x2 x6 x7 x9 x10 x12 x13 x14 x15 x16 x17 x25 x33 x34 x35 x36 x56 x58 x60 x72 : a9) (ht : RL ρ m (x0 :: x1 :: x2 :: a9.aA :: a9.aA :: a9.aA :: x6 :: x7 :: a9.aA :: x9 :: x10 :: a9.aA :: x12 :: x13 :: x14 :: x15 :: x16 :: x17 :: a9.aA :: a9.aA :: a9.aA :: a9.aA :: a9.aA :: a9.aA :: a9.aA :: x25 :: a9.aA :: a9.aA :: a9.aA :: a9.aA :: a9.aA :: a9.aA :: a9.aA :: x33 :: x34 :: x35 :: x36 :: a9.aA :: a9.aA :: a9.aA :: a9.aA :: a9.aA :: a9.aA :: a9.aA :: a9.aA :: a9.aA :: a9.aA :: a9.aA :: a9.aA :: a9.aA :: a9.aA :: a9.aA :: a9.aA :: a9.aA :: a9.aA :: a9.aA :: x56 :: a9.aA :: x58 :: .tup (.bool bb :: l) :: x60 :: a9.aA :: a9.aA :: a9.aA :: a9.aA :: a9.aA :: a9.aA :: a9.aA :: a9.aA :: a9.aA :: a9.aA :: a9.aA :: x72 :: a9.aA :: a9.aA :: a9.aA :: a9.aA :: a9.aA :: a9.aA :: a9.aA :: a9.aA :: a9.aA :: a9.aA :: a9.aA :: a9.aA :: []) a.tmps) (hr : Rel env.P ρ m h2 w)
  (hK : ∀ (a' : Act) (w' : World) (ρ' : Ren), dV env.P ρ m (at0 h2 n1) w ρ' m (at0 h2 n1) w' → RL ρ' m (x0 :: x1 :: x2 :: a9.aA :: a9.aA :: a9.aA :: x6 :: x7 :: a9.aA :: x9 :: x10 :: a9.aA :: x12 :: x13 :: x14 :: x15 :: x16 :: x17 :: a9.aA :: a9.aA :: a9.aA :: a9.aA :: a9.aA :: a9.aA :: a9.aA :: x25 :: a9.aA :: a9.aA :: a9.aA :: a9.aA :: a9.aA :: a9.aA :: a9.aA :: x33 :: x34 :: x35 :: x36 :: a9.aA :: a9.aA :: a9.aA :: a9.aA :: a9.aA :: a9.aA :: a9.aA :: a9.aA :: a9.aA :: a9.aA :: a9.aA :: a9.aA :: a9.aA :: a9.aA :: a9.aA :: a9.aA :: a9.aA :: a9.aA :: a9.aA :: x56 :: a9.aA :: x58 :: a9.aA :: .bool bb :: a9.aA :: a9.aA :: a9.aA :: a9.aA :: a9.aA :: a9.aA :: a9.aA :: a9.aA :: a9.aA :: a9.aA :: a9.aA :: x72 :: a9.aA :: a9.aA :: a9.aA :: a9.aA :: a9.aA :: a9.aA :: a9.aA :: a9.aA :: a9.aA :: a9.aA :: a9.aA :: a9.aA :: []) a'.tmps → a'.defers = a.defers → Q .normal a' w') : wpListIn (Fw o) n env.P #[zL, DW] Q [DW] a w := by
 refine vZ lG [DW] (ops := #[zL, DW]) (tm' := (x0 :: x1 :: x2 :: a9.aA :: a9.aA :: a9.aA :: x6 :: x7 :: a9.aA :: x9 :: x10 :: a9.aA :: x12 :: x13 :: x14 :: x15 :: x16 :: x17 :: a9.aA :: a9.aA :: a9.aA :: a9.aA :: a9.aA :: a9.aA :: a9.aA :: x25 :: a9.aA :: a9.aA :: a9.aA :: a9.aA :: a9.aA :: a9.aA :: a9.aA :: x33 :: x34 :: x35 :: x36 :: a9.aA :: a9.aA :: a9.aA :: a9.aA :: a9.aA :: a9.aA :: a9.aA :: a9.aA :: a9.aA :: a9.aA :: a9.aA :: a9.aA :: a9.aA :: a9.aA :: a9.aA :: a9.aA :: a9.aA :: a9.aA :: a9.aA :: x56 :: a9.aA :: x58 :: .tup (.bool bb :: l) :: .bool bb :: a9.aA :: a9.aA :: a9.aA :: a9.aA :: a9.aA :: a9.aA :: a9.aA :: a9.aA :: a9.aA :: a9.aA :: a9.aA :: x72 :: a9.aA :: a9.aA :: a9.aA :: a9.aA :: a9.aA :: a9.aA :: a9.aA :: a9.aA :: a9.aA :: a9.aA :: a9.aA :: a9.aA :: [])) (s := at0 h2 n1) (s' := at0 h2 n1) rfl rfl hr (fun id q => by have := q.1; have := q.2; omega) ht fun a' w' ρ' hp ht' hd => hK a' w' ρ' hp ?_ hd
 have := sX (E := env) (fn := 17) ht'
 rw [U4] at this
 exact this
theorem JW (rnd : Option Nat) (s : St) (ρ : Ren) (m : Mem) (w : World) (a : Act) (o : Option Nat) (n : Nat) (Q : Exit → Act → World → Prop) (it mm ck : Nat) (es : List Ent) (b : Sc) (x0 x1 x2 x6 x7 x9 x10 x12 x13 x16 x17 x25 x33 x34 x35 x36 x56 x60 x72 : a9) (hr : Rel env.P ρ m s.heap.get w)
  (hw : ∀ id, s.next ≤ id → id < s.next + es.length → ρ id = none) (ht : RL ρ m (x0 :: x1 :: x2 :: a9.aA :: a9.aA :: a9.aA :: x6 :: x7 :: a9.aA :: x9 :: x10 :: a9.aA :: x12 :: x13 :: .str b.1 :: .int .i64 b.2 :: x16 :: x17 :: a9.aA :: a9.aA :: a9.aA :: a9.aA :: a9.aA :: a9.aA :: a9.aA :: x25 :: a9.aA :: a9.aA :: a9.aA :: a9.aA :: a9.aA :: a9.aA :: a9.aA :: x33 :: x34 :: x35 :: x36 :: a9.aA :: a9.aA :: a9.aA :: a9.aA :: a9.aA :: a9.aA :: a9.aA :: a9.aA :: a9.aA :: a9.aA :: a9.aA :: a9.aA :: a9.aA :: a9.aA :: a9.aA :: a9.aA :: a9.aA :: a9.aA :: a9.aA :: x56 :: a9.aA :: .ptr it 0 :: a9.aA :: x60 :: a9.aA :: a9.aA :: a9.aA :: a9.aA :: a9.aA :: a9.aA :: a9.aA :: a9.aA :: a9.aA :: a9.aA :: a9.aA :: x72 :: a9.aA :: a9.aA :: a9.aA :: a9.aA :: a9.aA :: a9.aA :: a9.aA :: a9.aA :: a9.aA :: a9.aA :: a9.aA :: a9.aA :: []) a.tmps) (hn : RN ρ rnd o) (g1 : s.heap.get it = some (.hG mm ck [] ck)) (g2 : s.heap.get mm = some (.map es ck)) (fit : Fit es ck) (itn : it < s.next) (mmn : mm < s.next)
  (hQ : ∀ (a' : Act) (w' : World) (ρ' : Ren) (D : List Nat) (y16 y17 y60 y72 : a9) (h' : Hp), j6 env.P ρ m s w o a .normal (x0 :: x1 :: x2 :: a9.aA :: a9.aA :: a9.aA :: x6 :: x7 :: a9.aA :: x9 :: x10 :: a9.aA :: x12 :: x13 :: .str ((es.map dec).foldl bet b).1 :: .int .i64 ((es.map dec).foldl bet b).2 :: y16 :: y17 :: a9.aA :: a9.aA :: a9.aA :: a9.aA :: a9.aA :: a9.aA :: a9.aA :: x25 :: a9.aA :: a9.aA :: a9.aA :: a9.aA :: a9.aA :: a9.aA :: a9.aA :: x33 :: x34 :: x35 :: x36 :: a9.aA :: a9.aA :: a9.aA :: a9.aA :: a9.aA :: a9.aA :: a9.aA :: a9.aA :: a9.aA :: a9.aA :: a9.aA :: a9.aA :: a9.aA :: a9.aA :: a9.aA :: a9.aA :: a9.aA :: a9.aA :: a9.aA :: x56 :: a9.aA :: .ptr it 0 :: a9.aA :: y60 :: a9.aA :: a9.aA :: a9.aA :: a9.aA :: a9.aA :: a9.aA :: a9.aA :: a9.aA :: a9.aA :: a9.aA :: a9.aA :: y72 :: a9.aA :: a9.aA :: a9.aA :: a9.aA :: a9.aA :: a9.aA :: a9.aA :: a9.aA :: a9.aA :: a9.aA :: a9.aA :: a9.aA :: []) (at0 h' (s.next + es.length)) .normal a' w' ρ' D →
   (∀ id, id ≠ it → (id < s.next ∨ s.next + es.length ≤ id) → h' id = s.heap.get id) → Q .normal a' w') :
  (Code.block 4 (.loop sU)).wpIn (Fw o) n env.P Q a w := by
 have yB : ∀ id, s.next ≤ id → id < s.next + es.length → s.heap.get id = none := fun id h1 h2 => by
  cases e : s.heap.get id with
  | none => rfl
  | some c =>
   obtain ⟨rb, ob, q1, _⟩ := hr.dL id c e
   rw [hw id h1 h2] at q1
   cases q1
 have itw : it < s.next ∨ s.next + es.length ≤ it := .inl itn
 have mmw : mm < s.next ∨ s.next + es.length ≤ mm := .inl mmn
 have mi : mm ≠ it := fun e => by rw [e, g1] at g2; cases g2
 let I : Nat → Act → World → Prop := fun j a1 w1 => ∃ (done rest : List Ent) (h1 : Hp) (ρ1 : Ren) (D1 : List Nat) (y16 y17 y60 y72 : a9), es.Perm (done ++ rest) ∧ j = rest.length + 1 ∧
  j6 env.P ρ m s w o a .normal (x0 :: x1 :: x2 :: a9.aA :: a9.aA :: a9.aA :: x6 :: x7 :: a9.aA :: x9 :: x10 :: a9.aA :: x12 :: x13 :: .str ((done.map dec).foldl bet b).1 :: .int .i64 ((done.map dec).foldl bet b).2 :: y16 :: y17 :: a9.aA :: a9.aA :: a9.aA :: a9.aA :: a9.aA :: a9.aA :: a9.aA :: x25 :: a9.aA :: a9.aA :: a9.aA :: a9.aA :: a9.aA :: a9.aA :: a9.aA :: x33 :: x34 :: x35 :: x36 :: a9.aA :: a9.aA :: a9.aA :: a9.aA :: a9.aA :: a9.aA :: a9.aA :: a9.aA :: a9.aA :: a9.aA :: a9.aA :: a9.aA :: a9.aA :: a9.aA :: a9.aA :: a9.aA :: a9.aA :: a9.aA :: a9.aA :: x56 :: a9.aA :: .ptr it 0 :: a9.aA :: y60 :: a9.aA :: a9.aA :: a9.aA :: a9.aA :: a9.aA :: a9.aA :: a9.aA :: a9.aA :: a9.aA :: a9.aA :: a9.aA :: y72 :: a9.aA :: a9.aA :: a9.aA :: a9.aA :: a9.aA :: a9.aA :: a9.aA :: a9.aA :: a9.aA :: a9.aA :: a9.aA :: a9.aA :: []) (at0 h1 (s.next + done.length)) .normal a1 w1 ρ1 D1 ∧
  h1 it = some (.hG mm ck (done.map fun x => x.2.2) ck) ∧ (∀ id, id ≠ it → (id < s.next ∨ s.next + es.length ≤ id) → h1 id = s.heap.get id) ∧ ∀ id, s.next + done.length ≤ id → id < s.next + es.length → h1 id = none
 refine wpIn_block (sB I (fun a1 w1 hI => ?_) (fun j a1 w1 hI => ?_) (es.length + 1) ?_)
 ·obtain ⟨done, rest, h1, ρ1, D1, y16, y17, y60, y72, _, q, _⟩ := hI
  omega
 ·obtain ⟨done, rest, h1, ρ1, D1, y16, y17, y60, y72, hp, hj, he, k1, k2, k3⟩ := hI
  have hlen : es.length = done.length + rest.length := by rw [hp.length_eq, List.length_append]
  have k2m : h1 mm = some (.map es ck) := by rw [k2 mm mi mmw]; exact g2
  rw [XI]
  have hx : R ρ1 (m.with D1) (.ptr it 0) (a1.eval (.tmp 58)) := bY he.tmps (.tmp 58)
  have hns := K8 (P := env.P) he.fA.rel hx k1 k2m (fun e q => (fit.e e q).2.2) 0
  refine wpIn_seq (wpIn_region_list ?_)
  show (if Region.wanted zL (yielded #[zL, DW] a1.tmps) then zL.wpIn _ _ _ a1 w1 _ _ else _)
  rw [if_pos (by rfl)]
  refine ⟨fun _ _ => trivial, ?_⟩
  have hsem : zL.semAt (Fw o).round a1.eval = Go.execOp a1.eval zL := Oper.semAt_eq _ _ _ (fun c hc => by cases hc)
  rw [hsem]
  have hex : ∀ x w2, (Instr.next (a1.eval (.tmp 58)) false 0).run env.P w1 = .ok x w2 → (Go.execOp a1.eval zL).run env.P w1 = .ok (.value x) w2 := fun x w2 e => by
   simp only [Go.execOp, zL, Sem.run_bind, e, Result.andThen_ok, Sem.run_pure]
  have nd : ((done ++ rest).map fun x => x.2.2).Nodup := (hp.map _).nodup_iff.1 fit.d
  rw [List.map_append, List.nodup_append] at nd
  have ht1 := he.tmps
  rcases hns with ⟨hall, hrun⟩ | ⟨e, hes, hnew, k, v, w2, hrun, hr2, hfr⟩
  ·rw [hex _ _ hrun]
   show wpListIn _ _ _ _ _ [DW] (a1.put (some 59) (.tuple #[.bool false])) w1
   have rest0 : rest = [] := by
    cases rest with
    | nil => rfl
    | cons e rest =>
     have h1 := hall e (hp.mem_iff.2 (by simp))
     exact absurd rfl (nd.2.2 _ h1 e.2.2 (by simp))
   subst rest0
   rw [List.append_nil] at hp
   have hl : done.length = es.length := hp.length_eq.symm
   have hv : R ρ1 (m.with D1) (.tup (.bool false :: [])) (.tuple #[.bool false]) := .tup _ _ rfl fun i v x hv hx => by
    rcases i with _ | i
    ·simp at hv hx
     subst hv; subst hx
     exact .bool _
    ·simp at hv
   have ht2 := rA ht1 (some 59) hv
   refine DV (s.next + done.length) h1 ρ1 (m.with D1) w1 _ o n _ false [] _ _ _ _ _ _ _ _ _ _ _ _ _ _ _ _ _ _ _ _ _ _ ht2 he.fA.rel fun a3 w3 ρ3 hp3 ht3 hd3 => ?_
   have hev : a3.eval (.tmp 60) = .bool false := by
    have := bY ht3 (.tmp 60)
    exact R.iP this
   refine wpIn_seq (wpIn_cond_false hev (wpIn_exit ?_))
   show Exit.inBlock 4 Q (.exit 4) a3 w3
   simp only [Exit.inBlock, if_pos]
   have hfin : j6 env.P ρ1 (m.with D1) (at0 h1 (s.next + done.length)) w1 o a1 .normal _ (at0 h1 (s.next + done.length)) .normal a3 w3 ρ3 [] := ⟨by rw [Mem.dY]; exact hp3, by rw [Mem.dY]; exact ht3, .normal, by rw [hd3, Act.lS]; rfl, .nil _, fun _ => rfl⟩
   have hA := he.trans hfin
   rw [hl, ← LG (hp.map dec) b] at hA
   exact hQ a3 w3 ρ3 _ y16 y17 _ y72 h1 hA k2
  ·rw [hex _ _ hrun]
   show wpListIn _ _ _ _ _ [DW] (a1.put (some 59) (.tuple #[.bool true, k, v])) w2
   have her : e ∈ rest := by
    rcases List.mem_append.1 (hp.mem_iff.1 hes) with q | q
    ·exact absurd (List.mem_map.2 ⟨e, q, rfl⟩) hnew
    ·exact q
   obtain ⟨r1, r2, rfl⟩ := List.append_of_mem her
   have hp' : es.Perm ((done ++ [e]) ++ (r1 ++ r2)) := hp.trans (by
    rw [List.append_assoc]
    exact List.Perm.append_left _ List.perm_middle)
   have hlen' : es.length = done.length + (r1.length + 1 + r2.length) := by rw [hlen, List.length_append, List.length_cons]; omega
   have hv : R ρ1 (m.with D1) (.tup (.bool true :: [.aA, .aA])) (.tuple #[.bool true, k, v]) := .tup _ _ rfl fun i v x hv hx => by
    rcases i with _ | _ | _ | i
    ·simp at hv hx
     subst hv; subst hx
     exact .bool _
    ·simp at hv
     subst hv
     exact .aA _
    ·simp at hv
     subst hv
     exact .aA _
    ·simp at hv
   have ht2 := rA ht1 (some 59) hv
   replace hr2 : Rel env.P ρ1 (m.with D1) (upd h1 it (some (.hG mm ck ((done.map fun x => x.2.2) ++ [e.2.2]) ck))) w2 := hr2
   generalize hh2 : upd h1 it (some (.hG mm ck ((done.map fun x => x.2.2) ++ [e.2.2]) ck)) = h2 at hr2
   have k1' : h2 it = some (.hG mm ck ((done.map fun x => x.2.2) ++ [e.2.2]) ck) := by rw [← hh2, aO]
   have o2 : ∀ j, j ≠ it → h2 j = h1 j := fun j hj => by rw [← hh2, aH _ _ hj]
   have fresh1 : ∀ id, s.next + done.length ≤ id → id < s.next + es.length → ρ1 id = none := fun id q1 q2 => by
    cases e1 : ρ1 id with
    | none => rfl
    | some rb =>
     rcases he.fA.new id (by rw [e1]; simp) with q | q
     ·exact absurd (hw id (by omega) q2) q
     ·have := q.2
      have : id < s.next + done.length := this
      omega
   refine DV (s.next + done.length) h2 ρ1 (m.with D1) w2 _ o n _ true _ _ _ _ _ _ _ _ _ _ _ _ _ _ _ _ _ _ _ _ _ _ _ ht2 hr2 fun a3 w3 ρ3 hp3 ht3 hd3 => ?_
   have hev : a3.eval (.tmp 60) = .bool true := R.iP (bY ht3 (.tmp 60))
   refine wpIn_seq (wpIn_cond_true hev (wpIn_skip ?_))
   show (Code.block 5 b5).wpIn _ _ _ _ a3 w3
   have fite := fit.e e hes
   have hfe := yD hes fit.d
   have hit := ay0 rnd (fun ee tm' h' n' => ee = .normal ∧ ∃ (y16 y17 y72 : a9) (c : Blk), tm' = (x0 :: x1 :: x2 :: a9.aA :: a9.aA :: a9.aA :: x6 :: x7 :: a9.aA :: x9 :: x10 :: a9.aA :: x12 :: x13 :: .str (bet ((done.map dec).foldl bet b) (dec e)).1 :: .int .i64 (bet ((done.map dec).foldl bet b) (dec e)).2 :: y16 :: y17 :: a9.aA :: a9.aA :: a9.aA :: a9.aA :: a9.aA :: a9.aA :: a9.aA :: x25 :: a9.aA :: a9.aA :: a9.aA :: a9.aA :: a9.aA :: a9.aA :: a9.aA :: x33 :: x34 :: x35 :: x36 :: a9.aA :: a9.aA :: a9.aA :: a9.aA :: a9.aA :: a9.aA :: a9.aA :: a9.aA :: a9.aA :: a9.aA :: a9.aA :: a9.aA :: a9.aA :: a9.aA :: a9.aA :: a9.aA :: a9.aA :: a9.aA :: a9.aA :: x56 :: a9.aA :: .ptr it 0 :: a9.aA :: .bool true :: a9.aA :: a9.aA :: a9.aA :: a9.aA :: a9.aA :: a9.aA :: a9.aA :: a9.aA :: a9.aA :: a9.aA :: a9.aA :: y72 :: a9.aA :: a9.aA :: a9.aA :: a9.aA :: a9.aA :: a9.aA :: a9.aA :: a9.aA :: a9.aA :: a9.aA :: a9.aA :: a9.aA :: []) ∧ h' = upd (fun id => if id < s.next + done.length then h2 id else none) (s.next + done.length) (some c) ∧ n' = s.next + done.length + 1)
    it mm ck e.2.2 es (done.map fun x => x.2.2) (dec e).1 (dec e).2 ((done.map dec).foldl bet b) (fun id => if id < s.next + done.length then h2 id else none) (s.next + done.length) x0 x1 x2 x6 x7 x9 x10 x12 x13 y16 y17 x25 x33 x34 x35 x36 x56 (.bool true) y72
    (by rw [if_pos (by omega)]; exact k1') (by rw [if_pos (by omega), o2 mm mi]; exact k2m) (by rw [hfe, ← fite.1, ← fite.2.1]) (fun j hj => if_neg (by omega)) (fun y16 y17 y72 c => ⟨rfl, y16, y17, y72, c, rfl, rfl, rfl⟩)
   obtain ⟨⟨ee, tm4⟩, t4, hR, hrun4, ho4, ⟨he4, z16, z17, z72, c, htm4, hhR, hn4⟩, l1, l2, l3⟩ := N5 (h := h2) hit (k := 1) (fun a' h' n' q => by obtain ⟨_, _, _, _, _, _, _, q⟩ := q; omega) (fun id q1 q2 => by rw [o2 id (by omega)]; exact k3 id q1 (by omega))
   simp only at he4 htm4
   subst he4; subst htm4
   have new4 : ∀ id, New (at0 h2 (s.next + done.length)) t4 id → s.next + done.length ≤ id ∧ id < s.next + es.length := fun id q => by
    have q1 : s.next + done.length ≤ id := q.1
    have q2 := q.2
    omega
   refine lG 17 rnd (.block 5 b5) _ _ _ (at0 h2 (s.next + done.length)) t4 hrun4 ho4 ρ3 (m.with D1) w3 a3 o n _ hp3.rel (fun id q => ?_) ht3 (hn.mono fun id r q => hp3.ren id r (he.fA.ren id r q)) fun e5 a5 w5 ρ5 D5 he5 => ?_
   ·obtain ⟨q1, q2⟩ := new4 id q
    cases e1 : ρ3 id with
    | none => rfl
    | some rb =>
     rcases hp3.new id (by rw [e1]; simp) with q3 | q3
     ·exact absurd (fresh1 id q1 q2) q3
     ·have h1 := q3.1
      have h2 := q3.2
      have : id < s.next + done.length := h2
      omega
   ·have hex5 := he5.ex
    cases hex5
    show I j a5 w5
    have hpa : dV env.P ρ1 (m.with D1) (at0 h1 (s.next + done.length)) w1 ρ1 (m.with D1) (at0 h2 (s.next + done.length)) w2 := ⟨fun _ _ q => q, fun _ q => .inl q, fun _ _ q => q, hr2, hfr, Nat.le_refl _⟩
    have hA0 : j6 env.P ρ1 (m.with D1) (at0 h1 (s.next + done.length)) w1 o a1 .normal _ (at0 h2 (s.next + done.length)) .normal a3 w3 ρ3 [] := ⟨by rw [Mem.dY]; exact hpa.trans hp3, by rw [Mem.dY]; exact ht3, .normal, by rw [hd3, Act.lS]; rfl, .nil _, fun _ => rfl⟩
    have hA1 := he.trans hA0
    have hA2 := hA1.trans he5
    have hl5 : (done ++ [e]).length = done.length + 1 := by simp
    have hfo : ((done ++ [e]).map dec).foldl bet b = bet ((done.map dec).foldl bet b) (dec e) := by simp
    have hRid : ∀ id, id < s.next + done.length → t4.heap.get id = h2 id := fun id q => by
     rw [l1 id q, hhR, aH _ _ (by omega), if_pos q]
    refine ⟨done ++ [e], r1 ++ r2, t4.heap.get, ρ5, D5 ++ ([] ++ D1), z16, z17, .bool true, z72, hp', ?_, ?_, ?_, fun id q1 q2 => ?_, fun id q1 q2 => ?_⟩
    ·rw [List.length_append] at hj ⊢
     rw [List.length_cons] at hj
     omega
    ·rw [hfo, hl5]
     exact hA2.st rfl (by rw [hn4]; rfl)
    ·rw [hRid it (by omega), k1', List.map_append]; rfl
    ·by_cases q : id < s.next + done.length
     ·rw [hRid id q, o2 id q1, k2 id q1 q2]
     ·rw [l3 id (by omega) (by omega), o2 id q1, k2 id q1 q2]
    ·rw [hl5] at q1
     rw [l3 id (by omega) (by omega), o2 id (by omega)]
     exact k3 id (by omega) q2
 ·refine ⟨[], es, s.heap.get, ρ, [], x16, x17, x60, x72, by simp, rfl, ⟨?_, ?_, .normal, rfl, .nil m, fun _ => rfl⟩, g1, fun id _ _ => rfl, fun id h1 h2 => yB id h1 h2⟩
  ·rw [Mem.dY]
   exact .same hr (fun _ => rfl) rfl
  ·rw [Mem.dY]
   exact ht
end Go.Am.Ytlgebaofkolkoaa.Ins
set_option linter.unusedSimpArgs false
set_option linter.unusedVariables false
set_option linter.defProp false
set_option maxRecDepth 10000
namespace Go.Am.Ytlgebaofkolkoaa.Ins
open Go Go.Am Go.Proofs
def E2 : Nat → M Unit
 | 0 => M.pure ()
 | k + 1 => (pX (.mK [] 0)).bind fun id => (zO id).bind fun _ => E2 k
def G4 : List Bool := [true, true, true, false, false, false, true, true, false, true, true, false, true, true, true, true, false, false, false, false, false, false, false, false, false, true, false, false, false, false, false, false, false, true, true, true, true, false, false, false, false, false, false, false, false, false, false, false, false, false, false, false, false, false, false, false, true, false, true, false, false, false, false, false, false, false, false, false, false, false, false, false, false, false, false, false, false, false, false, false, false, false, false, false, false]
def CR (es : List Ent) (b : Sc) : Sc := (es.map dec).foldl bet b
def J3 (tm : List a9) (r : Sc) : List a9 := aF G4 (Go.Am.put (Go.Am.put tm 14 (.str r.1)) 15 (.int .i64 r.2))
open Classical in
noncomputable def qZ (tm : List a9) : M (eS × List a9) := match tm.length.beq 85 with
 | false => bD "Rich"
 | true => match (tm[58]? : Option a9) with
  | some (.ptr it 0) => match (tm[14]? : Option a9) with
   | some (.str s) => match (tm[15]? : Option a9) with
    | some (.int .i64 v) => (eQ it).bind fun x => match x with
     | .hG mm since seen gL => (eQ mm).bind fun y => match y with
      | .map es ck => (pX (.mK [] 0)).bind fun id => (zO id).bind fun _ => if Fit es ck ∧ seen = [] ∧ since = ck ∧ gL = ck ∧ it < id ∧ mm < id then (E2 es.length).bind fun _ => (zO it).bind fun _ => M.pure (.normal, J3 tm (CR es (s, v))) else bD "Rich"
      | _ => bD "Rich"
     | _ => bD "Rich"
    | _ => bD "Rich"
   | _ => bD "Rich"
  | _ => bD "Rich"
theorem E1 : ∀ (k : Nat) {s s' : St} {u : Unit}, (E2 k).run s = .ok u s' → s'.next = s.next + k ∧ (∀ id, id < s.next → s'.heap.get id = s.heap.get id) ∧ (∀ id, s.next ≤ id → id < s.next + k → s'.heap.get id = none) ∧ ∀ id, s.next + k ≤ id → s'.heap.get id = s.heap.get id
 | 0, s, s', u, h => by
  obtain ⟨_, rfl⟩ := aD h
  exact ⟨rfl, fun _ _ => rfl, fun id h1 h2 => by omega, fun _ _ => rfl⟩
 | k + 1, s, s', u, h => by
  obtain ⟨id, s1, h1, h2⟩ := M.aG h
  obtain ⟨rfl, n1, g1⟩ := vB h1
  obtain ⟨_, s2, h3, h4⟩ := M.aG h2
  obtain ⟨_, n2, g2⟩ := tY h3
  obtain ⟨a, b, c, d⟩ := E1 k h4
  have e : ∀ j, s2.heap.get j = if j = s.next then none else s.heap.get j := fun j => by
   rw [g2 j]
   by_cases q : j = s.next
   ·rw [if_pos q, if_pos q]
   ·rw [if_neg q, if_neg q, g1 j, if_neg q]
  refine ⟨by omega, fun id hid => ?_, fun id h5 h6 => ?_, fun id hid => ?_⟩
  ·rw [b id (by omega), e, if_neg (by omega)]
  ·by_cases q : id = s.next
   ·rw [b id (by omega), e, if_pos q]
   ·exact c id (by omega) (by omega)
  ·rw [d id (by omega), e, if_neg (by omega)]
def JL : List a9 → List a9 → Prop
 | [], [] => True
 | a :: l, b :: m => (a = .aA ∨ a = b) ∧ JL l m
 | _, _ => False
theorem JL.rl : ∀ {l l' : List a9} {ρ : Ren} {m : Mem} {c : List Value}, JL l' l → RL ρ m l c.toArray → RL ρ m l' c.toArray
 | [], [], _, _, _, _, h => h
 | b :: l, a :: l', ρ, m, c, hj, h => by
  obtain ⟨hl, hat⟩ := h
  cases c with
  | nil => simp at hl
  | cons y c =>
   have ih := JL.rl (l := l) (l' := l') (ρ := ρ) (m := m) (c := c) hj.2 ⟨by simpa using hl, fun i v x hv hx => hat (i + 1) v x (by simpa using hv) (by simpa using hx)⟩
   refine ⟨by simpa using ih.len, fun i v x hv hx => ?_⟩
   cases i with
   | zero =>
    simp at hv hx
    subst hv; subst hx
    rcases hj.1 with q | q
    ·rw [q]; exact .aA _
    ·exact hat 0 a y (by rw [q]; rfl) rfl
   | succ i => exact ih.at_ i v x (by simpa using hv) (by simpa using hx)
theorem JL.rl' {l l' : List a9} {ρ : Ren} {m : Mem} {c : Array Value} (h : JL l' l) (r : RL ρ m l c) : RL ρ m l' c := by
 have : c = c.toList.toArray := by simp
 rw [this] at r ⊢
 exact h.rl r
theorem JL.nil : JL [] [] := trivial
theorem JL.cons {a b : a9} {l m : List a9} (h : a = .aA ∨ a = b) (k : JL l m) : JL (a :: l) (b :: m) := ⟨h, k⟩
theorem aR2 {tm : List a9} (h : tm.length = 85) : ∃ g : Nat → a9, tm = [g 0, g 1, g 2, g 3, g 4, g 5, g 6, g 7, g 8, g 9, g 10, g 11, g 12, g 13, g 14, g 15, g 16, g 17, g 18, g 19, g 20, g 21, g 22, g 23, g 24, g 25, g 26, g 27, g 28, g 29, g 30, g 31, g 32, g 33, g 34, g 35, g 36, g 37, g 38, g 39, g 40, g 41, g 42, g 43, g 44, g 45, g 46, g 47, g 48, g 49, g 50, g 51, g 52, g 53, g 54, g 55, g 56, g 57, g 58, g 59, g 60, g 61, g 62, g 63, g 64, g 65, g 66, g 67, g 68, g 69, g 70, g 71, g 72, g 73, g 74, g 75, g 76, g 77, g 78, g 79, g 80, g 81, g 82, g 83, g 84] := by
 refine ⟨fun i => tm.getD i undef, ?_⟩
 have : tm = (List.range 85).map fun i => tm.getD i undef := by
  refine List.ext_getElem (by simp [h]) fun i h1 h2 => ?_
  simp [List.getD_eq_getElem?_getD, List.getElem?_eq_getElem h1]
 exact this
theorem NA (rnd : Option Nat) : tE env.P rnd (.block 4 (.loop sU)) qZ := by
 intro tm e tm' s s' h ho ρ m w a o n Q hr hf ht hn hQ
 unfold qZ at h
 split at h
 ·exact (aC h).elim
 rename_i hl85
 split at h
 case h_2 => exact (aC h).elim
 rename_i it h58
 split at h
 case h_2 => exact (aC h).elim
 rename_i b14 h14
 split at h
 case h_2 => exact (aC h).elim
 rename_i b15 h15
 obtain ⟨x, s1, h1, h2⟩ := M.aG h
 obtain ⟨hg1, e1⟩ := dE h1
 split at h2
 case h_2 => exact (aC h2).elim
 rename_i mm since seen gL
 obtain ⟨y, s2, h3, h4⟩ := M.aG h2
 obtain ⟨hg2, e2⟩ := dE h3
 split at h4
 case h_2 => exact (aC h4).elim
 rename_i es ck
 obtain ⟨id, s3, h5, h6⟩ := M.aG h4
 obtain ⟨rfl, n3, k3⟩ := vB h5
 obtain ⟨_, s4, h7, h8⟩ := M.aG h6
 obtain ⟨_, n4, k4⟩ := tY h7
 split at h8
 case isFalse => exact (aC h8).elim
 rename_i hc
 obtain ⟨fit, rfl, rfl, rfl, itn, mmn⟩ := hc
 obtain ⟨_, s5, h9, h10⟩ := M.aG h8
 obtain ⟨n5, q5, r5, t5⟩ := E1 _ h9
 obtain ⟨_, s6, h11, h12⟩ := M.aG h10
 obtain ⟨_, n6, k6⟩ := tY h11
 obtain ⟨he, rfl⟩ := aD h12
 injection he with u1 u2
 subst u1; subst u2
 rw [e1.heap] at hg2
 have nn : s2.next = s.next := by rw [e2.next, e1.next]
 rw [nn] at itn mmn
 obtain ⟨g, rfl⟩ := aR2 (Nat.eq_of_beq_eq_true hl85)
 have p58 : g 58 = .ptr it 0 := Option.some.inj h58
 have p14 : g 14 = .str b14 := Option.some.inj h14
 have p15 : g 15 = .int .i64 b15 := Option.some.inj h15
 have hh2 : s2.heap.get = s.heap.get := by funext j; rw [e2.heap, e1.heap]
 have h4g : ∀ j, s4.heap.get j = if j = s.next then none else s.heap.get j := fun j => by
  rw [k4 j, nn]
  by_cases q : j = s.next
  ·rw [if_pos q, if_pos q]
  ·rw [if_neg q, if_neg q, k3 j, nn, if_neg q, hh2]
 have n4' : s4.next = s.next + 1 := by omega
 have ns' : s'.next = s.next + 1 + es.length := by omega
 have hs' : ∀ id c, s'.heap.get id = some c → id ≠ it ∧ (id < s.next ∨ s.next + es.length ≤ id) ∧ s.heap.get id = some c := fun id c hc => by
  rw [k6 id] at hc
  by_cases q : id = it
  ·rw [if_pos q] at hc; cases hc
  ·rw [if_neg q] at hc
   refine ⟨q, ?_⟩
   by_cases q1 : id < s4.next
   ·rw [q5 id q1, h4g] at hc
    by_cases q2 : id = s.next
    ·rw [if_pos q2] at hc; cases hc
    ·rw [if_neg q2] at hc
     exact ⟨.inl (by omega), hc⟩
   ·by_cases q3 : id < s4.next + es.length
    ·rw [r5 id (by omega) q3] at hc; cases hc
    ·rw [t5 id (by omega), h4g, if_neg (by omega)] at hc
     exact ⟨.inr (by omega), hc⟩
 refine JW rnd s ρ m w a o n Q it mm _ es (b14, b15) (g 0) (g 1) (g 2) (g 6) (g 7) (g 9) (g 10) (g 12) (g 13) (g 16) (g 17) (g 25) (g 33) (g 34) (g 35) (g 36) (g 56) (g 60) (g 72) hr (fun id q1 q2 => hf id ⟨q1, by omega⟩) (JL.rl' ?_ ht) hn hg1 hg2 fit itn mmn ?_
 ·repeat' first | exact JL.nil | refine JL.cons (.inl rfl) ?_ | refine JL.cons (.inr rfl) ?_ | refine JL.cons (.inr p14.symm) ?_ | refine JL.cons (.inr p15.symm) ?_ | refine JL.cons (.inr p58.symm) ?_
 ·intro a' w' ρ' D y16 y17 y60 y72 h' hA hk
  refine hQ .normal a' w' ρ' D ⟨⟨hA.fA.ren, fun id q => (hA.fA.new id q).imp (fun u => u) fun u => ⟨u.1, ?_⟩, hA.fA.mem, Rel.sub hA.fA.rel fun id c hc => ?_, hA.fA.fr, by omega⟩, JL.rl' ?_ hA.tmps, .normal, hA.defers, hA.tW, hA.inRound⟩
  ·have : id < s.next + es.length := u.2
   omega
  ·obtain ⟨q1, q2, q3⟩ := hs' id c hc
   show h' id = some c
   rw [hk id q1 q2]; exact q3
  ·unfold CR
   simp only [J3, G4, aF, Go.Am.put]
   repeat' first | exact JL.nil | refine JL.cons (.inl rfl) ?_ | refine JL.cons (.inr rfl) ?_ | refine JL.cons (.inr p58) ?_
noncomputable def X5 : pC Try.prog := ⟨17, 4, .block 4 (.loop sU), qZ, NA⟩
end Go.Am.Ytlgebaofkolkoaa.Ins
set_option linter.unusedSimpArgs false
set_option linter.unusedVariables false
set_option linter.defProp false
set_option maxRecDepth 10000
namespace Go.Am.Ytlgebaofkolkoaa.Ins
open Go Go.Am Go.Proofs
theorem u95 : und env 95 = M.pure (.slice 128) := by simp only [und, pI, aB]
theorem rU : sizeOf env 128 = M.pure 1 := by simp only [sizeOf, iT, aB]
theorem SI {h : Hp} {n id len C xid : Nat} {cells : List a9} {xc : bG} {e' : TypeId} (hh : h id = some (.row (.l cells) 128)) (hC : cells.length = C) (hl : len ≤ C) (hr : 2 * (len + 1) * 8 ≤ 281474976710656) (hr2 : len + 1 ≤ 281474976710656)
  (hx : h xid = some (.row xc e')) (hxc : 0 < xc.size) (hv : bB (xc.at 0) = true) :
  Wp (fD env [95, 95] (.sl id 0 len (some C) 1) (.sl xid 0 1 (some 1) 1)) h n fun v' h' n' =>
   (len + 1 ≤ C ∧ v' = .sl id 0 (len + 1) (some C) 1 ∧ n' = n ∧ h' = upd h id (some (.row (.l (bV cells len [xc.at 0])) 128))) ∨
   (C < len + 1 ∧ v' = .sl n 0 (len + 1) none 1 ∧ n' = n + 1 ∧ h' = upd h n (some (.row (.l (cells.take len ++ [xc.at 0])) 128))) := by
 have hx1 : Rds h 1 (.sl xid 0 1 (some 1) 1) 1 [xc.at 0] := .sl xid 0 1 (some 1) xc e' _ hx rfl (by simp; omega) (fun j hj => by
  have : j = 0 := by simpa using hj
  subst this; rfl)
 have hs : Rds h 1 (.sl id 0 len (some C) 1) len (cells.take len) := .sl id 0 len (some C) (.l cells) 128 _ hh (by rw [List.length_take]; omega) (by rw [List.length_take]; show 0 + _ ≤ cells.length; omega) (fun j hj => by
  rw [List.length_take] at hj
  rw [Nat.zero_add, bG.wP (by omega), List.getElem_take])
 simp only [fD, u95, aB, sV, append, iT, lenOf, gD, show (Nat.beq 1 0) = false from rfl]
 refine dX hx1.cells ?_
 simp only [cB, eT, hh, Option.some.injEq, exists_eq_left', eE, gD]
 by_cases hf : len + 1 ≤ C
 ·rw [cO hf]
  have hb : (len + 1).ble cells.length = true := cO (by omega)
  simp only [dN, Nat.zero_add, Nat.mul_one, bind_assoc, eT, hh, Option.some.injEq, exists_eq_left', eE, eL, bG.size, List.length_singleton, hb, List.all_cons, List.all_nil, hv, Bool.and_true, oD, true_and, aT]
  rw [nE _ _ _ (by simp; omega)]
  exact ⟨by simp, .inl ⟨hf, rfl⟩⟩
 ·rw [gX hf]
  refine dX hs.cells ?_
  have r1 : ((2 * (len + 1) * 8).ble room && (len + 1).ble room) = true := by
   unfold room
   rw [cO hr, cO hr2]; rfl
  simp only [iG, eL, gC, aT, r1, true_and]
  exact .inr ⟨by omega, trivial⟩
theorem UZ {id len C k : Nat} {z : Int} (hz : z = (k : Nat)) (hk : k ≤ C) {h' : Hp} {n' : Nat} : Rd (slice env 95 (.sl id 0 len (some C) 1) none (some (.int .i64 z)) none) h' n' [] (.sl id 0 k (some C) 1) := by
 subst hz
 simp only [slice, u95, rU, aB, cL, fJ, bind_assoc, cB, Nat.zero_mul, Nat.add_zero, Nat.sub_zero, Int.toNat_natCast]
 exact Rd.bind (i2 := []) (Rd.ob (decide_eq_true ⟨by omega, by omega⟩)) (Rd.pure _)
theorem DD {id len C k : Nat} {z : Int} (hz : z = (k : Nat)) (hk : k ≤ len) (hl : len ≤ C) {h' : Hp} {n' : Nat} : Rd (slice env 95 (.sl id 0 len (some C) 1) (some (.int .i64 z)) none none) h' n' [] (.sl id k (len - k) (some (C - k)) 1) := by
 subst hz
 simp only [slice, u95, rU, aB, cL, fJ, bind_assoc, cB, Nat.zero_add, Nat.mul_one, Int.toNat_natCast]
 exact Rd.bind (i2 := []) (Rd.ob (decide_eq_true ⟨by omega, by omega⟩)) (Rd.pure _)
theorem N0 {id len k : Nat} {z : Int} (hz : z = (k : Nat)) (hk : k ≤ len) {h' : Hp} {n' : Nat} : Rd (slice env 95 (.sl id 0 len none 1) (some (.int .i64 z)) none none) h' n' [] (.sl id k (len - k) none 1) := by
 subst hz
 simp only [slice, lR, u95, rU, aB, cL, fJ, bind_assoc, cB, Nat.zero_add, Nat.mul_one, Int.toNat_natCast]
 exact Rd.bind (i2 := []) (Rd.ob (decide_eq_true ⟨by omega, by omega⟩)) (Rd.pure _)
theorem ai2 (m : Nat) : (eY [a9.dG] m).length = m := by rw [NC]; simp
theorem SH {h : Hp} {n id k C m : Nat} {cells : List a9} {z : Int} (hz : z = (m : Nat)) (hh : h id = some (.row (.l cells) 128)) (hC : cells.length = C) (hk : k ≤ C) (hm : 0 < m) (hc : C < k + m) (hr : 2 * (k + m) * 8 ≤ 281474976710656) (hr2 : k + m ≤ 281474976710656) :
  Wp (fD env [95, 3] (.sl id 0 k (some C) 1) (.int .i64 z)) h n fun v' h' n' => v' = .sl n 0 (k + m) none 1 ∧ n' = n + 1 ∧ h' = upd h n (some (.row (.l (cells.take k ++ eY [.dG] m)) 128)) := by
 subst hz
 have hs : Rds h 1 (.sl id 0 k (some C) 1) k (cells.take k) := .sl id 0 k (some C) (.l cells) 128 _ hh (by rw [List.length_take]; omega) (by rw [List.length_take]; show 0 + _ ≤ cells.length; omega) (fun j hj => by
  rw [List.length_take] at hj
  rw [Nat.zero_add, bG.wP (by omega), List.getElem_take])
 have u3 : und env 3 = M.pure (.int .i64) := by simp only [und, ti3, aB]
 have d : decide (0 < ((m : Nat) : Int) ∧ C < k + ((m : Nat) : Int).toNat ∧ 0 < 1 ∧ (a9.dG.cells.all bB) = true) = true := decide_eq_true ⟨by omega, by rw [Int.toNat_natCast]; omega, by omega, rfl⟩
 have r1 : ((2 * (k + m) * 8).ble room && (k + m).ble room) = true := by
  unfold room
  rw [cO hr, cO hr2]; rfl
 simp only [fD, u3, aB, sV, fJ, xD, u95, iT, cB, d, eL, true_and]
 refine dX hs.cells ?_
 simp only [iG, Int.toNat_natCast, eL, gC, aT, r1, true_and]
 rfl
theorem J4 {h : Hp} {n d doff dl sid soff sl m : Nat} {dcap scap : Option Nat} {dc xs : List a9} {e' e2 : TypeId} {c2 : bG} (hd : h d = some (.row (.l dc) e')) (hs : h sid = some (.row c2 e2)) (hm : min sl dl = m) (h0 : 0 < m) (hf : doff + m ≤ dc.length) (hc : soff + m ≤ c2.size) (hx : c2.sub soff m = xs) (h1 : xs.all bB = true) :
  Wr (copy env 95 (.sl d doff dl dcap 1) (.sl sid soff sl scap 1)) h n [d, sid] [d] (.int .i64 m) (upd h d (some (.row (.l (bV dc doff xs)) e'))) := by
 have hl : xs.length = m := by rw [← hx, bG.gQ hc]
 have hsl : m ≤ sl := by omega
 simp only [copy, u95, aB, lenOf, rU, hm]
 have a0 : (m.beq 0) = false := kF (by omega)
 refine Wr.bind (i1 := []) (rs := [d, sid]) (Rd.ask _) ?_
 rw [a0]
 simp only
 refine Wr.bind (rs := [d]) (i1 := [sid]) (a := xs) ?_ ?_
 ·simp only [cM, cB, Nat.mul_one]
  refine Rd.bind (i2 := []) (i1 := [sid]) (Rd.get hs) ?_
  simp only [eE]
  refine Rd.bind (i1 := []) (i2 := []) (Rd.ob (cO hsl)) ?_
  refine Rd.bind (i1 := []) (i2 := []) (Rd.ob (cO hc)) ?_
  rw [hx]
  exact Rd.pure _
 simp only [cB]
 refine Wr.ret (a := ()) ?_
 simp only [dN]
 refine Wr.bind (rs := []) (i1 := [d]) (Rd.get hd) ?_
 simp only [eE, bG.size]
 refine Wr.bind (rs := []) (i1 := []) (Rd.ob (cO (by omega))) ?_
 simp only [h1]
 rw [nE _ _ _ (by omega)]
 exact Wr.set hd
theorem E5 {α : Type} {ys : List α} {k : Nat} {v : α} (hk : k ≤ ys.length) (j : Nat) : (fK ys k v)[j]? = if j < k then ys[j]? else if j = k then some v else ys[j - 1]? := by
 have hl : (ys.take k).length = k := by rw [List.length_take]; omega
 unfold fK
 by_cases a : j < k
 ·rw [if_pos a, List.getElem?_append_left (by omega), List.getElem?_take, if_pos a]
 ·rw [if_neg a, List.getElem?_append_right (by omega), hl]
  by_cases b : j = k
  ·subst b; rw [if_pos rfl, Nat.sub_self]; rfl
  ·rw [if_neg b, show j - k = (j - k - 1) + 1 by omega, List.getElem?_cons_succ, List.getElem?_drop]
   congr 1; omega
theorem SN {xs ys : List a9} {k len : Nat} {v : a9} (hy : ys.length = len) (hk : k < len) (hx : len + 1 ≤ xs.length) (he : ∀ j, j < k → xs[j]? = ys[j]?) : (bV (bV xs k [v]) (k + 1) (ys.drop k)).take (len + 1) = fK ys k v := by
 have h1 : (bV xs k [v]).length = xs.length := eU (by simp; omega)
 have h2 : (ys.drop k).length = len - k := by rw [List.length_drop, hy]
 refine List.ext_getElem? fun j => ?_
 rw [E5 (by omega)]
 by_cases hj : j < len + 1
 ·rw [List.getElem?_take, if_pos hj, qX (by rw [h1, h2]; omega), h2, qX (by simp; omega)]
  simp only [List.length_singleton]
  by_cases a : j < k
  ·rw [if_neg (by omega), if_neg (by omega), if_pos a, he j a]
  ·by_cases b : j = k
   ·subst b; rw [if_neg (by omega), if_pos (by omega), if_neg a, if_pos rfl, Nat.sub_self]; rfl
   ·rw [if_pos (by omega), if_neg a, if_neg b, List.getElem?_drop]
    congr 1; omega
 ·rw [List.getElem?_eq_none (by rw [List.length_take]; omega), if_neg (by omega), if_neg (by omega), List.getElem?_eq_none (by omega)]
theorem TV {xs : List a9} {k len : Nat} {v : a9} (hk : k < len) (hx : len + 1 ≤ xs.length) : (bV (bV xs (k + 1) ((xs.take len).drop k)) k [v]).take (len + 1) = fK (xs.take len) k v := by
 have hy : (xs.take len).length = len := by rw [List.length_take]; omega
 have h2 : ((xs.take len).drop k).length = len - k := by rw [List.length_drop, hy]
 have h1 : (bV xs (k + 1) ((xs.take len).drop k)).length = xs.length := eU (by rw [h2]; omega)
 refine List.ext_getElem? fun j => ?_
 rw [E5 (by omega)]
 by_cases hj : j < len + 1
 ·rw [List.getElem?_take, if_pos hj, qX (by simp; omega), qX (by rw [h2]; omega), h2]
  simp only [List.length_singleton]
  by_cases a : j < k
  ·rw [if_neg (by omega), if_neg (by omega), if_pos a, List.getElem?_take, if_pos (by omega)]
  ·by_cases b : j = k
   ·subst b; rw [if_pos (by omega), if_neg a, if_pos rfl, Nat.sub_self]; rfl
   ·rw [if_neg (by omega), if_pos (by omega), if_neg a, if_neg b, List.getElem?_drop]
    congr 1; omega
 ·rw [List.getElem?_eq_none (by rw [List.length_take]; omega), if_neg (by omega), if_neg (by omega), List.getElem?_eq_none (by omega)]
theorem ae1 {h : Hp} {n xid id off len l2 off2 : Nat} {c1 c2 : Option Nat} {xc c : bG} {e' : TypeId} (hx : h xid = some (.row xc 128)) (hh : h id = some (.row c e')) (hne : xid ≠ id) (h1 : 0 < len) (h2 : 0 < l2) (h3 : 0 < c.size) :
  Wp (gM 128 [.sl xid off len c1 1, .sl id off2 l2 c2 1]) h n fun v' h' n' => v' = .bool false ∧ h' = h ∧ n' = n := by
 have b1 : (xid.beq id) = false := kF hne
 have b2 : Nat.blt 0 len = true := Nat.ble_eq_true_of_le h1
 have b3 : Nat.blt 0 l2 = true := Nat.ble_eq_true_of_le h2
 have b4 : Nat.blt 0 c.size = true := Nat.ble_eq_true_of_le h3
 simp only [gM, eL, b1, b2, b3, b4, Bool.not_false, Bool.and_self, eT, hx, hh, Option.some.injEq, exists_eq_left', eE, Nat.beq_refl, aT, and_self]
set_option maxHeartbeats 8000000 in
theorem f104 (h : Hp) (n : Nat) (id len C k xid : Nat) (cells : List a9) (xc : bG) (hh : h id = some (.row (.l cells) 128)) (hC : cells.length = C) (hl : len ≤ C) (h0 : 0 < C) (hr : 2 * (len + 1) * 8 ≤ 281474976710656) (hr2 : len + 1 ≤ 281474976710656) (hk : k ≤ len) (h1 : (cells.take len).all bB = true)
  (hx : h xid = some (.row xc 128)) (hxc : 0 < xc.size) (hv : bB (xc.at 0) = true) (hxn : xid < n) (hin : id < n) (hne : xid ≠ id) :
  Wp (bH env (aV env) 104 [.sl id 0 len (some C) 1, .int .i64 (k : Nat), .sl xid 0 1 (some 1) 1]) h n fun v' h' n' =>
   (v' = .sl id 0 (len + 1) (some C) 1 ∧ n' = n ∧ len + 1 ≤ C ∧ ∃ cells', cells'.length = C ∧ cells'.take (len + 1) = fK (cells.take len) k (xc.at 0) ∧ ∀ j, h' j = if j = id then some (.row (.l cells') 128) else h j) ∨
   (v' = .sl n 0 (len + 1) none 1 ∧ n' = n + 1 ∧ ∀ j, h' j = if j = n then some (.row (.l (fK (cells.take len) k (xc.at 0))) 128) else h j) := by
 refine aU VB VA ?_
 have hs : Rds h 1 (.sl id 0 len (some C) 1) len (cells.take len) := .sl id 0 len (some C) (.l cells) 128 _ hh (by rw [List.length_take]; omega) (by rw [List.length_take]; show 0 + _ ≤ cells.length; omega) (fun j hj => by
  rw [List.length_take] at hj
  rw [Nat.zero_add, bG.wP (by omega), List.getElem_take])
 simp only [AM, Try.f104, Option.getD_some, List.replicate, bI, fgr, execOp, opd, opt, ofValue, bP, put, nth, aF, ended, dK, dT, List.append_eq, List.cons_append, List.nil_append, List.length_cons, List.length_nil, Nat.reduceAdd, Nat.reduceSub, Nat.zero_add, aT]
 rw [aE (hs.I3 u95 rU rfl hk)]
 by_cases ek : k = len
 ·subst ek
  have ei : (((k : Nat) : Int) = ((k : Nat) : Int)) = True := by simp
  have hI : fK (cells.take k) k (xc.at 0) = cells.take k ++ [xc.at 0] := by
   have hlt : (cells.take k).length = k := by rw [List.length_take]; omega
   unfold fK
   rw [List.take_of_length_le (Nat.le_of_eq hlt), List.drop_eq_nil_of_le (Nat.le_of_eq hlt)]
  simp only [bI, fgr, execOp, opd, fH, ofValue, bP, put, nth, aF, dS, builtin, rZ, rW, blr, bor, fC, fG, intOp, Int.cast_ofNat_Int, rG, Int.reduceEq, decide_true, decide_false, beq_self_eq_true]
  refine cP (SI hh hC hl hr hr2 hx hxc hv) fun v' h' n' hq => ?_
  rcases hq with ⟨c1, rfl, rfl, rfl⟩ | ⟨c1, rfl, rfl, rfl⟩
  ·simp only [bI, fgr, execOp, opd, bP, put, nth, aF, true_and]
   refine .inl ⟨c1, _, by rw [eU (by simp; omega)]; exact hC, ?_, fun j => rfl⟩
   rw [hI, show k + 1 = k + ([xc.at 0] : List a9).length from rfl, pL (by simp; omega)]
  ·simp only [bI, fgr, execOp, opd, bP, put, nth, aF, true_and]
   refine .inr fun j => ?_
   rw [hI]; rfl
 have hkl : k < len := by omega
 have ei : (((k : Nat) : Int) = ((len : Nat) : Int)) = False := by simp; omega
 simp (disch := omega) only [bI, tyr, fgr, execOp, opd, fH, ofValue, bP, put, nth, aF, dS, builtin, rZ, blr, und, bor, fC, fG, intOp, bZ, Int.cast_ofNat_Int, rG, Int.reduceEq, gt_iff_lt, decide_true, decide_false, ei, UO, R2, w64]
 by_cases ec : C < len + 1
 ·have e1 : (((C : Nat) : Int) < ((len : Nat) : Int) + 1) = True := by simp; omega
  simp only [bI, execOp, opd, opt, bP, put, nth, decide_true, e1]
  rw [aE (UZ rfl (by omega))]
  simp (disch := omega) only [bI, execOp, opd, fH, bP, put, nth, dS, builtin, rW, bor, fC, fG, intOp, bZ, decide_true, w64]
  refine cP (SH (m := len + 1 - k) (by omega) hh hC (by omega) (by omega) (by omega) (by omega) (by omega)) fun v' h' n' ⟨e1, e2, e3⟩ => ?_
  subst e1; subst e2; subst e3
  rw [show k + (len + 1 - k) = len + 1 by omega]
  simp (disch := omega) only [bI, fgr, execOp, opd, opt, bP, put, nth, aF]
  rw [aE (N0 rfl (by omega))]
  simp (disch := omega) only [bI, execOp, opd, fH, bP, put, nth, dS, builtin, rW, B5]
  have hh1 := aO h n (some (Blk.row (bG.l (cells.take k ++ eY [a9.dG] (len + 1 - k))) 128))
  have hL1 : (cells.take k ++ eY [a9.dG] (len + 1 - k)).length = len + 1 := by rw [List.length_append, List.length_take, ai2]; omega
  have hxs : xc.sub 0 1 = [xc.at 0] := bG.mJ hxc
  rw [cR (J4 (m := 1) hh1 ((aH _ _ (by omega)).trans hx) (by omega) (by omega) (by rw [hL1]; omega) hxc hxs (by simp [hv]))]
  simp (disch := omega) only [bI, fgr, bP, put, aF, Int.cast_ofNat_Int]
  generalize hH : upd (upd h n (some (Blk.row (bG.l (cells.take k ++ eY [a9.dG] (len + 1 - k))) 128))) n (some (Blk.row (bG.l (bV (cells.take k ++ eY [a9.dG] (len + 1 - k)) k [xc.at 0])) 128)) = H
  have hHo : ∀ j, j ≠ n → H j = h j := fun j hj => by rw [← hH, aH _ _ hj, aH _ _ hj]
  have hHn : H n = some (Blk.row (bG.l (bV (cells.take k ++ eY [a9.dG] (len + 1 - k)) k [xc.at 0])) 128) := by rw [← hH, aO]
  refine bW ⟨rfl, ?_⟩
  simp (disch := omega) only [oQ, qF, execOp, opd, opt, bP, put, nth, bor, fC, fG, intOp, bZ, Nat.reduceAdd, decide_true, Nat.zero_add, w64]
  rw [aW (N0 (k := k + 1) (by omega) (by omega))]
  simp (disch := omega) only [oQ, qF, execOp, opd, opt, bP, put, nth, Nat.reduceAdd]
  rw [aW (DD (k := k) (by omega) (by omega) (by omega))]
  simp (disch := omega) only [oQ, execOp, opd, fH, bP, put, nth, dS, builtin, rW, B5, Nat.reduceAdd]
  have hsub : (bG.l cells).sub k (len - k) = (cells.take len).drop k := by
   show (cells.drop k).take (len - k) = _
   rw [List.drop_take]
  have hone : ((cells.take len).drop k).all bB = true := by
   rw [List.all_eq_true] at h1 ⊢
   exact fun x hx => h1 x (List.mem_of_mem_drop hx)
  refine jN (J4 (m := len - k) hHn ((hHo id (by omega)).trans hh) (by omega) (by omega) (by rw [eU (by rw [hL1]; simp; omega), hL1]; omega) (by show k + (len - k) ≤ cells.length; omega) hsub hone) ?_
  simp (disch := omega) only [mV, bI, fgr, execOp, opd, bP, put, nth, aF, Nat.reduceAdd, true_and]
  refine ⟨(by (try simp (disch := omega) only [cJ, List.all_cons, List.all_nil, yU, yT, Bool.not_false, Bool.true_or, Bool.and_true]); repeat' (first | rfl | exact (Bool.or_eq_true _ _).mpr (.inr rfl) | refine (Bool.and_eq_true _ _).mpr ⟨?_, ?_⟩)), .inr fun j => ?_⟩
  have := SN (xs := cells.take k ++ eY [a9.dG] (len + 1 - k)) (ys := cells.take len) (k := k) (len := len) (v := xc.at 0) (by rw [List.length_take]; omega) hkl (by omega) (fun j hj => by rw [List.getElem?_append_left (by rw [List.length_take]; omega), List.getElem?_take, if_pos hj, List.getElem?_take, if_pos (by omega)])
  rw [List.take_of_length_le (by rw [eU (by rw [eU (by rw [hL1]; simp; omega), hL1, List.length_drop, List.length_take]; omega), eU (by rw [hL1]; simp; omega)]; omega)] at this
  rw [this]
  by_cases q : j = n
  ·subst q; rw [aO, if_pos rfl]
  ·rw [aH _ _ q, if_neg q]; exact hHo j q
 have e1 : (((C : Nat) : Int) < ((len : Nat) : Int) + 1) = False := by simp; omega
 simp (disch := omega) only [bI, execOp, opd, opt, bP, put, nth, bor, fC, fG, intOp, bZ, decide_true, decide_false, e1, w64]
 rw [aE (UZ (k := len + 1) (by omega) (by omega))]
 simp (disch := omega) only [bI, fgr, execOp, opd, opt, bP, put, nth, aF, bor, fC, fG, intOp, bZ, decide_true, w64]
 rw [aE (DD (k := k + 1) (by omega) (by omega) (by omega))]
 simp (disch := omega) only [bI, hkr, execOp, opd, fH, bP, put, nth, dS, eB, List.nil_append, List.append_nil]
 refine dA (ae1 hx hh hne (by omega) (by omega) (by show 0 < cells.length; omega)) ?_
 simp (disch := omega) only [bI, fgr, execOp, opd, bP, put, nth, aF, unOp, Bool.not_false]
 refine bW ⟨rfl, ?_⟩
 simp (disch := omega) only [oQ, qF, execOp, opd, opt, bP, put, nth, bor, fC, fG, intOp, bZ, Nat.reduceAdd, decide_true, Nat.zero_add, w64]
 rw [aW (DD (k := k + 1) (by omega) (by omega) (by omega))]
 simp (disch := omega) only [oQ, qF, execOp, opd, opt, bP, put, nth, Nat.reduceAdd]
 rw [aW (DD (k := k) (by omega) (by omega) (by omega))]
 simp (disch := omega) only [oQ, execOp, opd, fH, bP, put, nth, dS, builtin, rW, B5, Nat.reduceAdd]
 have hsub : (bG.l cells).sub k (len - k) = (cells.take len).drop k := by
  show (cells.drop k).take (len - k) = _
  rw [List.drop_take]
 have hone : ((cells.take len).drop k).all bB = true := by
  rw [List.all_eq_true] at h1 ⊢
  exact fun x hx => h1 x (List.mem_of_mem_drop hx)
 have hl2 : ((cells.take len).drop k).length = len - k := by rw [List.length_drop, List.length_take]; omega
 refine jN (J4 (m := len - k) hh hh (by omega) (by omega) (by omega) (by show k + (len - k) ≤ cells.length; omega) hsub hone) ?_
 simp (disch := omega) only [mV, bI, fgr, execOp, opd, opt, bP, put, nth, aF, Nat.reduceAdd]
 refine ⟨(by (try simp (disch := omega) only [cJ, List.all_cons, List.all_nil, yU, yT, Bool.not_false, Bool.true_or, Bool.and_true]); repeat' (first | rfl | exact (Bool.or_eq_true _ _).mpr (.inr rfl) | refine (Bool.and_eq_true _ _).mpr ⟨?_, ?_⟩)), ?_⟩
 rw [aE (DD (k := k) (by omega) (by omega) (by omega))]
 simp (disch := omega) only [bI, execOp, opd, fH, bP, put, nth, dS, builtin, rW, B5]
 have hxs : xc.sub 0 1 = [xc.at 0] := bG.mJ hxc
 have hsp : (bV cells (k + 1) ((cells.take len).drop k)).length = C := by rw [eU (by rw [hl2]; omega)]; exact hC
 rw [cR (J4 (m := 1) (aO _ _ _) ((aH _ _ hne).trans hx) (by omega) (by omega) (by rw [hsp]; omega) hxc hxs (by simp [hv]))]
 simp (disch := omega) only [bI, fgr, execOp, opd, bP, put, nth, aF, Int.cast_ofNat_Int, true_and]
 refine .inl ⟨by omega, _, ?_, TV hkl (by omega), fun j => ?_⟩
 ·rw [eU (by rw [hsp]; simp; omega)]; exact hsp
 ·by_cases q : j = id
  ·subst q; rw [aO, if_pos rfl]
  ·rw [aH _ _ q, aH _ _ q, if_neg q]
theorem BC {h : Hp} {n xid : Nat} {s : a9} {xc : bG} {e' : TypeId} (hs : s = .aN ∨ s = .emp ∨ ∃ id off c, s = .sl id off 0 (some 0) 1 ∧ h id = some (.row c 128) ∧ off ≤ c.size) (hx : h xid = some (.row xc e')) (hxc : 0 < xc.size) (hv : bB (xc.at 0) = true) :
  Wp (fD env [95, 95] s (.sl xid 0 1 (some 1) 1)) h n fun v' h' n' => v' = .sl n 0 1 none 1 ∧ n' = n + 1 ∧ ∀ j, h' j = if j = n then some (.row (.l [xc.at 0]) 128) else h j := by
 have hx1 : Rds h 1 (.sl xid 0 1 (some 1) 1) 1 [xc.at 0] := .sl xid 0 1 (some 1) xc e' _ hx rfl (by simp; omega) (fun j hj => by
  have : j = 0 := by simpa using hj
  subst this; rfl)
 have key : ∀ j, upd h n (some (Blk.row (bG.l [xc.at 0]) 128)) j = if j = n then some (.row (.l [xc.at 0]) 128) else h j := fun j => rfl
 have r1 : ((2 * 1 * 8).ble room && (1).ble room) = true := rfl
 rcases hs with rfl | rfl | ⟨id, off, c, rfl, hc1, hc2⟩
 ·simp only [fD, u95, aB, sV, append, iT, lenOf, gD, show (Nat.beq 1 0) = false from rfl]
  refine dX hx1.cells ?_
  simp only [iG, eL, gC, aT, r1, true_and]
  exact key
 ·simp only [fD, u95, aB, sV, append, iT, lenOf, gD, show (Nat.beq 1 0) = false from rfl]
  refine dX hx1.cells ?_
  simp only [iG, eL, gC, aT, r1, true_and]
  exact key
 ·simp only [fD, u95, aB, sV, append, iT, lenOf, gD, show (Nat.beq 1 0) = false from rfl]
  refine dX hx1.cells ?_
  have hs0 : Rds h 1 (.sl id off 0 (some 0) 1) 0 [] := .sl id off 0 (some 0) c 128 _ hc1 rfl (by simpa using hc2) (fun j hj => by simp at hj)
  simp only [cB, eT, hc1, Option.some.injEq, exists_eq_left', eE, gD, show (Nat.ble (0 + 1) 0) = false from rfl]
  refine dX hs0.cells ?_
  simp only [iG, Nat.zero_add, List.nil_append, eL, gC, aT, r1, true_and]
  exact key
theorem ar7 (h : Hp) (n : Nat) (s : a9) (xid : Nat) (xc : bG) (hs : s = .aN ∨ s = .emp ∨ ∃ id off c, s = .sl id off 0 (some 0) 1 ∧ h id = some (.row c 128) ∧ off ≤ c.size) (hx : h xid = some (.row xc 128)) (hxc : 0 < xc.size) (hv : bB (xc.at 0) = true) (hxn : xid < n) :
  Wp (bH env (aV env) 104 [s, .int .i64 0, .sl xid 0 1 (some 1) 1]) h n fun v' h' n' => v' = .sl n 0 1 none 1 ∧ n' = n + 1 ∧ ∀ j, h' j = if j = n then some (.row (.l [xc.at 0]) 128) else h j := by
 refine aU VB VA ?_
 have hxs : xc.sub 0 1 = [xc.at 0] := bG.mJ hxc
 have b1 : Nat.ble (0 + 1) xc.size = true := Nat.ble_eq_true_of_le hxc
 have b2 : Nat.ble 1 xc.size = true := Nat.ble_eq_true_of_le hxc
 rcases hs with rfl | rfl | ⟨id, off, c, rfl, hc1, hc2⟩
 ·simp only [AM, Try.f104, Option.getD_some, List.replicate, bI, tyr, fgr, execOp, opd, fH, opt, ofValue, bP, put, nth, aF, dS, builtin, rZ, rW, blr, und, sizeOf, bor, fC, fG, intOp, nD, fJ, ended, dK, dT, List.append_eq, List.cons_append, List.nil_append, List.length_cons, List.length_nil, Nat.reduceAdd, Nat.reduceSub, Int.cast_ofNat_Int, rG, Int.reduceEq, Int.reduceLE, decide_true, decide_false, true_and, Nat.zero_add, Int.toNat_zero, aT, beq_self_eq_true, slice, cL, vA]
  refine cP (BC (.inl rfl) hx hxc hv) fun v' h' n' ⟨e1, e2, e3⟩ => ?_
  subst e1
  simp only [bI, fgr, execOp, opd, bP, put, nth, aF, true_and, e2]
  exact e3
 ·simp only [AM, Try.f104, Option.getD_some, List.replicate, bI, tyr, fgr, execOp, opd, fH, opt, ofValue, bP, put, nth, aF, dS, builtin, rZ, rW, blr, und, sizeOf, bor, fC, fG, intOp, nD, fJ, ended, dK, dT, List.append_eq, List.cons_append, List.nil_append, List.length_cons, List.length_nil, Nat.reduceAdd, Nat.reduceSub, Int.cast_ofNat_Int, rG, Int.reduceEq, Int.reduceLE, decide_true, decide_false, true_and, Nat.zero_add, Int.toNat_zero, aT, beq_self_eq_true, slice, cL, vA]
  refine cP (BC (.inr (.inl rfl)) hx hxc hv) fun v' h' n' ⟨e1, e2, e3⟩ => ?_
  subst e1
  simp only [bI, fgr, execOp, opd, bP, put, nth, aF, true_and, e2]
  exact e3
 ·simp only [AM, Try.f104, Option.getD_some, List.replicate, bI, tyr, fgr, execOp, opd, fH, opt, ofValue, bP, put, nth, aF, dS, builtin, rZ, rW, blr, und, sizeOf, bor, fC, fG, intOp, nD, fJ, ended, dK, dT, cB, List.append_eq, List.cons_append, List.nil_append, List.length_cons, List.length_nil, Nat.reduceAdd, Nat.reduceSub, Int.cast_ofNat_Int, rG, Int.reduceEq, Int.reduceLE, decide_true, decide_false, true_and, Nat.zero_add, Nat.add_zero, Int.toNat_zero, Nat.zero_mul, aT, beq_self_eq_true, slice, cL, vA]
  refine cP (BC (.inr (.inr ⟨id, off, c, rfl, hc1, hc2⟩)) hx hxc hv) fun v' h' n' ⟨e1, e2, e3⟩ => ?_
  subst e1
  simp only [bI, fgr, execOp, opd, bP, put, nth, aF, true_and, e2]
  exact e3
theorem SJ : JE env 104 128 oY.i := ⟨ar7, fun h n id len C k xid cells xc hh hC hl h0 hr hr2 hk h1 hx hxc hv hxn hin hne => f104 h n id len C k xid cells xc hh hC hl h0 hr hr2 hk h1 hx hxc hv hxn hin hne⟩
theorem X3 : lA Try.prog 108 cN := by
 refine DE (E := env) fun args s v s' h ho => ?_
 have h0 := h
 unfold cN at h0
 split at h0
 ·rename_i x y
  obtain ⟨e, hw⟩ := EX h ho
  refine ⟨e, ?_⟩
  refine aU aq7 am3 ?_
  simp only [PT, Try.f108, Option.getD_some, List.replicate, bI, fgr, hkr, execOp, opd, fH, ofValue, bP, put, nth, aF, dS, eB, ended, dK, dT, List.cons_append, List.nil_append, List.append_nil, List.length_cons, List.length_nil, Nat.reduceAdd, Nat.reduceSub, Nat.zero_add, aT]
  refine cP hw fun v' h' n' ⟨e1, e2, e3⟩ => ?_
  subst e1
  simp only [bI, fgr, execOp, opd, bP, put, nth, aF, true_and]
  exact ⟨e2, e3⟩
 ·exact (aC h0).elim
def B9 : List a9 → M a9
 | [a] => match a with
  | .ptr s off => match off.beq 0 with
   | true => (eQ s).bind (eE fun c _ => match c with
     | .l cs => match cs with
      | [x, lv] => match x with
       | .ptr _ _ => match lv with
        | .aN => M.pure (.int .i64 (-1))
        | .sl _ _ len _ _ => match len.ble 1000000 with
         | true => M.pure (.int .i64 ((len : Nat) - 1))
         | false => bD "Tip"
        | _ => bD "Tip"
       | _ => bD "Tip"
      | _ => bD "Tip"
     | _ => bD "Tip")
   | false => bD "Tip"
  | _ => bD "Tip"
 | _ => bD "Tip"
theorem aQ2 (s x o : Nat) (lv : a9) (h : Hp) (n : Nat) (hr : Row h s [.ptr x o, lv]) : Wp (bH env (aV env) 66 [.ptr s 0]) h n fun v' h' n' => v' = .bool false ∧ h' = h ∧ n' = n := by
 refine aU aa4 ZW ?_
 simp only [GP, Try.f66, Option.getD_some, List.replicate, bI, tyr, fgr, execOp, opd, ofValue, bP, put, nth, aF, und, sizeOf, bor, bL, nD, gK, nilCheck, fV, ended, dK, dT, aR, fieldAddr, bS, equal, gN, eN, eO, List.getElem?_cons_succ, List.getElem?_cons_zero, List.cons_append, List.nil_append, List.length_cons, List.length_nil, Nat.reduceSub, Bool.and_true, Bool.or_true, Nat.zero_add, aT]
 rw [aE (hr.one (off := 0) rfl pD rfl)]
 simp only [bI, tyr, fgr, execOp, opd, ofValue, bP, put, nth, aF, und, bor, bL, nD, gK, bE, branch, bS, equal, gN, eN, eO, List.getElem?_cons_succ, List.getElem?_cons_zero, Bool.and_true, Bool.or_true, and_self]
theorem ar6 (s x o : Nat) (lv : a9) (k : Nat) (h : Hp) (n : Nat) (hr : Row h s [.ptr x o, lv]) (hl : cA env [57] lv = M.pure (.int .i64 (k : Nat))) (h1 : jG SK.i.desc = false) (hk : k ≤ 1000000) : Wp (bH env (aV env) 20 [.ptr s 0]) h n fun v' h' n' => v' = .int .i64 ((k : Nat) - 1) ∧ h' = h ∧ n' = n := by
 have w1 : IntKind.i64.wrap (((k : Nat) : Int) - 1) = ((k : Nat) : Int) - 1 := w64 (by omega) (by omega)
 refine aU aP3 aD5 ?_
 simp only [ZP, Try.f20, Option.getD_some, List.replicate, bI, fgr, hkr, execOp, opd, fH, ofValue, bP, put, nth, aF, dS, eB, ended, dK, dT, List.cons_append, List.nil_append, List.append_nil, List.length_cons, List.length_nil, Nat.reduceSub, Int.reduceNeg, Nat.zero_add, aT]
 refine dA (aQ2 s x o lv h n hr) ?_
 simp only [bI, tyr, fgr, execOp, opd, bP, put, nth, aF, und, sizeOf, nilCheck, fV, aR, fieldAddr, List.getElem?_cons_succ, List.getElem?_cons_zero, Int.reduceNeg, Nat.zero_add]
 rw [aE (hr.one (off := 1) rfl tH rfl)]
 simp only [bI, fgr, execOp, opd, fH, ofValue, bP, put, nth, aF, dS, builtin, rZ, bor, fC, fG, intOp, bZ, decide_true, and_self, hl, w1]
theorem ai0 : lA Try.prog 20 B9 := by
 refine DE (E := env) fun args s v s' h ho => ?_
 unfold B9 at h
 split at h
 case h_2 => exact (aC h).elim
 rename_i a
 split at h
 case h_2 => exact (aC h).elim
 rename_i p off
 split at h
 case h_2 => exact (aC h).elim
 rename_i hoff
 have hoff := Nat.eq_of_beq_eq_true hoff
 subst hoff
 obtain ⟨b, s1, h1, h2⟩ := M.aG h
 obtain ⟨hg, e1⟩ := dE h1
 cases b with
 | row c t =>
  simp only [eE] at h2
  split at h2
  case h_2 => exact (aC h2).elim
  rename_i cs
  split at h2
  case h_2 => exact (aC h2).elim
  rename_i x lv
  split at h2
  case h_2 => exact (aC h2).elim
  rename_i xi xo
  split at h2
  ·obtain ⟨rfl, rfl⟩ := aD h2
   exact ⟨e1, ar6 p xi xo .aN 0 _ _ ⟨t, hg⟩ rfl rfl (by omega)⟩
  ·rename_i i o len cap sz
   split at h2
   ·rename_i hle
    obtain ⟨rfl, rfl⟩ := aD h2
    exact ⟨e1, ar6 p xi xo _ len _ _ ⟨t, hg⟩ rfl rfl (Nat.le_of_ble_eq_true hle)⟩
   ·exact (aC h2).elim
  ·exact (aC h2).elim
 | _ => exact (aC h2).elim
end Go.Am.Ytlgebaofkolkoaa.Ins
