/- What the statement reaches, gone through; and the abstract machine that goes through it. -/
import Derived.Test.YtlgebaofkolkoaaGB
import Derived.KernelRfl
import Derived.Test.YtlgebaofkolkoaaProg
set_option linter.unusedSimpArgs false
set_option linter.unusedVariables false
set_option linter.defProp false
namespace Go.Am
open Go
def fG {α : Type} (l : List α) (k : Nat) (v : α) : List α := l.take k ++ v :: l.drop k
theorem j8 {α : Type} (l : List α) (k : Nat) (v : α) : (fG l k v).length = l.length + 1 := by simp [fG]; omega
def TU (k : Int) (len : Nat) : Bool := decide (0 ≤ k ∧ k ≤ (len : Int))
def HZ : M Nat := ⟨fun s => .ok s.next s, by
 intro s a s' h
 injection h with h1 h2
 subst h1; subst h2
 exact ⟨[], [], [], ⟨Nat.le_refl _, rfl, rfl, rfl, fun _ _ _ => rfl, fun _ h => (by cases h), fun t hn ho hg =>
  ⟨t, by rw [hn], hn, ho, rfl, rfl, rfl, fun id hid => hg id (.inr hid), fun _ _ _ => rfl⟩, id, fun _ h => (by cases h)⟩⟩⟩
theorem LW {n : Nat} {s s' : St} (h : HZ.run s = .ok n s') : n = s.next ∧ fS s s' := by
 injection h with h1 h2
 subst h1; subst h2
 exact ⟨rfl, .refl _⟩
theorem KU {α : Type} {f : Nat → M α} {h : Hp} {n : Nat} {Q : α → Hp → Nat → Prop} : Wp (HZ.bind f) h n Q ↔ Wp (f n) h n Q := by
 rw [dG]
 constructor
 ·intro hw
  obtain ⟨s, a, s', ⟨h1, h2, h3⟩, he, hq⟩ := hw
  have := he.run
  injection this with e1 e2
  subst e1; subst e2
  rw [h1, h2] at hq
  exact hq
 ·intro hw
  exact ⟨at0 h n, n, at0 h n, lH h n, ⟨rfl, ⟨[], rfl, rfl⟩, rfl⟩, hw⟩
def oW (e : TypeId) (i : TI) (at_ : Int) (v : aA) : M aA := (ob (decide (at_ = 0))).bind fun _ => iR e i 1 [v]
def sJ (e : TypeId) (i : TI) : List aA → M aA
 | [s, .int .i64 at_, .sl xid 0 1 (some 1) 1] => HZ.bind fun nx => (fX xid).bind (cW fun xc xt => (ob (Nat.blt xid nx && (Nat.blt 0 xc.size && (xt.beq e && bK (xc.at 0))))).bind fun _ => match s with
  | .aT => oW e i at_ (xc.at 0)
  | .emp => oW e i at_ (xc.at 0)
  | .sl id off len cap sz => bL sz 1 (match cap with
   | some m => (fX id).bind (cW fun c t => (ob (Nat.blt id nx && (m.beq 0 && (len.beq 0 && (t.beq e && off.ble c.size))))).bind fun _ => oW e i at_ (xc.at 0))
   | none => (fX id).bind (cW fun c t => (ob (Nat.blt id nx && (off.beq 0 && (t.beq e && (Nat.blt 0 c.size && (len.ble c.size && ((id.beq xid).not && (TU at_ len && (c.sub 0 len).all bK)))))))).bind fun _ =>
     (CT id).bind fun _ => iR e i (len + 1) (fG (c.sub 0 len) at_.toNat (xc.at 0))))
  | _ => bJ "Insert")
 | _ => bJ "Insert"
structure EL (E : Env) (f : FuncId) (e : TypeId) (i : TI) : Prop where
 nil : ∀ (h : Hp) (n : Nat) (s : aA) (xid : Nat) (xc : bH), (s = .aT ∨ s = .emp ∨ ∃ id off c, s = .sl id off 0 (some 0) 1 ∧ h id = some (.row c e) ∧ off ≤ c.size) → h xid = some (.row xc e) → 0 < xc.size → bK (xc.at 0) = true → xid < n →
  Wp (bO E (aX E) f [s, .int .i64 0, .sl xid 0 1 (some 1) 1]) h n fun v' h' n' => v' = .sl n 0 1 none 1 ∧ n' = n + 1 ∧ ∀ j, h' j = if j = n then some (.row (.l [xc.at 0]) e) else h j
 at_ : ∀ (h : Hp) (n : Nat) (id len C k xid : Nat) (cells : List aA) (xc : bH), h id = some (.row (.l cells) e) → cells.length = C → len ≤ C → 0 < C → 2 * (len + 1) * i.bytes ≤ 281474976710656 → len + 1 ≤ 281474976710656 → k ≤ len → (cells.take len).all bK = true →
  h xid = some (.row xc e) → 0 < xc.size → bK (xc.at 0) = true → xid < n → id < n → xid ≠ id →
  Wp (bO E (aX E) f [.sl id 0 len (some C) 1, .int .i64 (k : Nat), .sl xid 0 1 (some 1) 1]) h n fun v' h' n' =>
   (v' = .sl id 0 (len + 1) (some C) 1 ∧ n' = n ∧ len + 1 ≤ C ∧ ∃ cells', cells'.length = C ∧ cells'.take (len + 1) = fG (cells.take len) k (xc.at 0) ∧ ∀ j, h' j = if j = id then some (.row (.l cells') e) else h j) ∨
   (v' = .sl n 0 (len + 1) none 1 ∧ n' = n + 1 ∧ ∀ j, h' j = if j = n then some (.row (.l (fG (cells.take len) k (xc.at 0))) e) else h j)
section
variable {P : Program} {f : FuncId} {ρ : Ren} {m : Mem} {s s' : St} {w : World}
theorem Rel.GZ {h h' : Nat → Option Blk} (hr : Rel P ρ m h w) {id : Nat} {c c2 : bH} {t : TypeId} (hg : h id = some (.row c t)) {r : RB} (hρ : ρ id = some r) (hs : c2.size ≤ r.n) (hc : ∀ j, j < c2.size → c2.at j = .aB ∨ (j < c.size ∧ c2.at j = c.at j))
  (hh : ∀ j, h' j = if j = id then some (.row c2 t) else h j) : Rel P ρ m h' w where
 dJ := fun j b hj => by
  rw [hh j] at hj
  by_cases e : j = id
  ·subst e
   rw [if_pos rfl] at hj
   injection hj with hj
   subst hj
   obtain ⟨rb, o, q1, q2, q3, q4⟩ := hr.dJ j _ hg
   rw [hρ] at q1
   injection q1 with q1
   subst q1
   cases q3 with
   | row _ _ arr fr hs' hn hc' hrr hf =>
    refine ⟨r, _, hρ, q2, .row r c2 t arr fr hs' hn (by omega) (fun j x hj hx => ?_) hf, q4⟩
    rcases hc j hj with e | ⟨h1, h2⟩
    ·rw [e]; exact .aB _
    ·rw [h2]; exact hrr j x h1 hx
  ·rw [if_neg e] at hj
   exact hr.dJ j b hj
 inj := fun i j b1 b2 r1 r2 h1 h2 h3 h4 h5 => by
  have up : ∀ {k b}, h' k = some b → ∃ b', h k = some b' := fun {k b} hk => by
   rw [hh k] at hk
   by_cases e : k = id
   ·subst e; exact ⟨_, hg⟩
   ·rw [if_neg e] at hk; exact ⟨_, hk⟩
  obtain ⟨b1', h1'⟩ := up h1
  obtain ⟨b2', h2'⟩ := up h2
  exact hr.inj i j _ _ r1 r2 h1' h2' h3 h4 h5
 mem := hr.mem
theorem Rel.sub {h h' : Nat → Option Blk} (hr : Rel P ρ m h w) (hh : ∀ j b, h' j = some b → h j = some b) : Rel P ρ m h' w :=
 ⟨fun id b hb => hr.dJ id b (hh id b hb), fun i j b c r r' h1 h2 => hr.inj i j b c r r' (hh i b h1) (hh j c h2), hr.mem⟩
theorem BS.imp {xs : Array Value} {K K' : Value → World → Prop} (h : BS P f xs w K) (hk : ∀ v w', K v w' → K' v w') : BS P f xs w K' := by
 rcases h with ⟨h1, h2⟩ | ⟨v, w', h1, h2⟩
 ·exact .inl ⟨h1, h2.mono fun e w' ⟨v, h3, h4⟩ => ⟨v, h3, hk v w' h4⟩⟩
 ·exact .inr ⟨v, w', h1, hk v w' h2⟩
theorem YD {x y z : aA} {xs : Array Value} (h : RL ρ m [x, y, z] xs) : ∃ a b c, xs = #[a, b, c] ∧ R ρ m x a ∧ R ρ m y b ∧ R ρ m z c := by
 obtain ⟨l, r⟩ := h
 obtain ⟨xl⟩ := xs
 match xl with
 | [] => simp at l
 | [_] => simp at l
 | [_, _] => simp at l
 | [a, b, c] => exact ⟨a, b, c, rfl, r 0 _ _ rfl rfl, r 1 _ _ rfl rfl, r 2 _ _ rfl rfl⟩
 | _ :: _ :: _ :: _ :: _ => simp at l
theorem GV {x y z : aA} {a b c : Value} (ha : R ρ m x a) (hb : R ρ m y b) (hc : R ρ m z c) : RL ρ m [x, y, z] #[a, b, c] := by
 refine ⟨rfl, fun i u v hu hv => ?_⟩
 match i with
 | 0 => simp at hu hv; subst hu; subst hv; exact ha
 | 1 => simp at hu hv; subst hu; subst hv; exact hb
 | 2 => simp at hu hv; subst hu; subst hv; exact hc
 | i + 3 => simp at hu
theorem AV {e : TypeId} {i : TI} {need : Nat} {cs : List aA} {v : aA} (h : (iR e i need cs).run s = .ok v s') (ho : bU s') :
  2 * need * i.bytes ≤ 281474976710656 ∧ need ≤ 281474976710656 ∧ v = .sl s.next 0 need none i.size ∧ s'.next = s.next + 1 ∧ ∀ j, s'.heap.get j = if j = s.next then some (.row (.l cs) e) else s.heap.get j := by
 obtain ⟨_, s1, h1, h2, ho1, _, _⟩ := M.aJ h ho
 obtain ⟨hb, e1⟩ := eK h1 ho1
 obtain ⟨id, s2, h3, h4⟩ := M.aK h2
 obtain ⟨rfl, rfl⟩ := aC h4
 obtain ⟨rfl, k1, k2⟩ := yS h3
 simp only [Bool.and_eq_true] at hb
 rw [e1.next] at k1 k2 ⊢
 rw [e1.heap] at k2
 exact ⟨Nat.le_of_ble_eq_true hb.1, Nat.le_of_ble_eq_true hb.2, rfl, k1, k2⟩
theorem BW {α : Type} {mm : M α} {h : Hp} {n : Nat} {Q : α → Hp → Nat → Prop} (hw : Wp mm h n Q) : ∃ a t, mm.run (at0 h n) = .ok a t ∧ bU t ∧ Q a t.heap.get t.next := by
 obtain ⟨a, t, he, hq⟩ := DL hw (lH h n)
 obtain ⟨o, h1, h2⟩ := he.obs
 refine ⟨a, t, he.run, ?_, hq⟩
 unfold bU
 rw [h1]
 simpa [at0] using h2
end
theorem L9 {E : Env} {f : FuncId} {e : TypeId} {i : TI} (W : EL E f e i) (h1 : i.size = 1) : kM E.P f (sJ e i) := by
 intro args s v s' h ho ρ m w xs hr hfr hx
 unfold sJ at h
 split at h
 ·rename_i S at_ xid
  obtain ⟨nx, s0, g01, g02⟩ := M.aK h
  obtain ⟨rfl, e0⟩ := LW g01
  obtain ⟨xb, s1, g1, g2, go1, _, gn1⟩ := M.aJ g02 ho
  obtain ⟨hgx, e1⟩ := eC g1
  rw [e0.heap] at hgx
  obtain ⟨xc, xt, rfl, g3⟩ := iU g2
  obtain ⟨_, s2, g4, g5, go2, _, gn2⟩ := M.aJ g3 ho
  obtain ⟨hb, e2⟩ := eK g4 go2
  simp only [Bool.and_eq_true] at hb
  obtain ⟨hxn, hxc, hxt, hone⟩ := hb
  have hxn : xid < s.next := Nat.le_of_ble_eq_true hxn
  have hxc : 0 < xc.size := Nat.le_of_ble_eq_true hxc
  obtain rfl := Nat.eq_of_beq_eq_true hxt
  have e12 := (e0.trans e1).trans e2
  obtain ⟨X, K, Y, rfl, rX, rK, rY⟩ := YD hx
  obtain rfl := rK.cY
  have fresh_live : ∀ {j b}, s.heap.get j = some b → s.next < s'.next → j ≠ s.next := fun {j b} hj hn e => by
   subst e
   obtain ⟨rb, o, q1, _⟩ := hr.dJ s.next b hj
   rw [hfr s.next ⟨Nat.le_refl _, hn⟩] at q1
   cases q1
  have new1 : ∀ {S' : aA}, R ρ m S' X → (S' = .aT ∨ S' = .emp ∨ ∃ id off c, S' = .sl id off 0 (some 0) 1 ∧ s.heap.get id = some (.row c xt) ∧ off ≤ c.size) → ∀ s3, fS s s3 → (oW xt i at_ (xc.at 0)).run s3 = .ok v s' →
    BS E.P f #[X, .int .i64 at_, Y] w fun x w' => ∃ ρ', eW E.P ρ m s w ρ' m s' w' ∧ R ρ' m v x := by
   intro S' rS hS s3 e3 hg
   obtain ⟨_, s4, k1, k2, ko4, _, _⟩ := M.aJ hg ho
   obtain ⟨hat, e4⟩ := eK k1 ko4
   have hat := of_decide_eq_true hat
   subst hat
   obtain ⟨_, _, rfl, k3, k4⟩ := AV k2 ho
   have e34 := e3.trans e4
   rw [e34.next] at k3 k4 ⊢
   rw [e34.heap] at k4
   obtain ⟨v', t, r1, r2, rfl, r4, r5⟩ := BW (W.nil s.heap.get s.next S' xid xc hS hgx hxc hone hxn)
   have rr : Rel E.P ρ m (at0 s.heap.get s.next).heap.get w := hr.congr fun _ => rfl
   refine (mF pA f _ _ _ _ r1 r2 ρ m w _ rr (fun id hid => hfr id ⟨hid.1, by have := hid.2; omega⟩) (GV rS (.int _ _) rY)).imp fun x w' ⟨ρ', p, q⟩ => ?_
   refine ⟨ρ', ⟨p.ren, fun id hid => (p.new id hid).imp_right fun z => ⟨z.1, by have := z.2; omega⟩, p.mem, p.rel.sub fun j b hj => ?_, p.fr, by omega⟩, ?_⟩
   ·rw [k4] at hj; rw [r5]; exact hj
   ·rw [h1]; exact q
  split at g5
  ·exact new1 rX (.inl rfl) s2 e12 g5
  ·exact new1 rX (.inr (.inl rfl)) s2 e12 g5
  ·rename_i id off len cap sz
   obtain ⟨rfl, g6⟩ := eH g5
   cases cap with
   | some mm =>
    obtain ⟨b3, s3, g7, g8, go3, _, _⟩ := M.aJ g6 ho
    obtain ⟨hg3, e3⟩ := eC g7
    obtain ⟨c, t, rfl, g9⟩ := iU g8
    obtain ⟨_, s4, g10, g11, go4, _, _⟩ := M.aJ g9 ho
    obtain ⟨hb, e4⟩ := eK g10 go4
    simp only [Bool.and_eq_true] at hb
    obtain ⟨_, b1, b2, b3, b4⟩ := hb
    obtain rfl := Nat.eq_of_beq_eq_true b1
    obtain rfl := Nat.eq_of_beq_eq_true b2
    obtain rfl := Nat.eq_of_beq_eq_true b3
    rw [e12.heap] at hg3
    exact new1 rX (.inr (.inr ⟨id, off, c, rfl, hg3, Nat.le_of_ble_eq_true b4⟩)) s4 ((e12.trans e3).trans e4) g11
   | none =>
    obtain ⟨b3, s3, g7, g8, go3, _, _⟩ := M.aJ g6 ho
    obtain ⟨hg3, e3⟩ := eC g7
    obtain ⟨c, t, rfl, g9⟩ := iU g8
    obtain ⟨_, s4, g10, g11, go4, _, _⟩ := M.aJ g9 ho
    obtain ⟨hb, e4⟩ := eK g10 go4
    simp only [Bool.and_eq_true] at hb
    obtain ⟨b0, b1, b2, b3, b4, b5, b6, b7⟩ := hb
    have b0 : id < s.next := Nat.le_of_ble_eq_true b0
    obtain rfl := Nat.eq_of_beq_eq_true b1
    obtain rfl := Nat.eq_of_beq_eq_true b2
    have b3 : 0 < c.size := Nat.le_of_ble_eq_true b3
    have b4 := Nat.le_of_ble_eq_true b4
    have b5 : id ≠ xid := fun q => by subst q; simp at b5
    obtain ⟨b6, b8⟩ := of_decide_eq_true b6
    obtain ⟨k, rfl⟩ := Int.eq_ofNat_of_zero_le b6
    rw [e12.heap] at hg3
    have e14 := (e12.trans e3).trans e4
    obtain ⟨_, s5, g12, g13⟩ := M.aK g11
    obtain ⟨_, k1, k2⟩ := E3 g12
    obtain ⟨c1, c2, rfl, k3, k4⟩ := AV g13 ho
    rw [k1, e14.next] at k3 k4 ⊢
    have k2 : ∀ j, s5.heap.get j = if j = id then none else s.heap.get j := fun j => by rw [k2, e14.heap]
    simp only [k2, Int.toNat_natCast] at k4
    have nid := fresh_live hg3 (by omega)
    have nxid := fresh_live hgx (by omega)
    obtain ⟨r, C, hρ, rfl, hC⟩ : ∃ r C, ρ id = some r ∧ X = .slice (some ⟨r.b, 0, none⟩) len C ∧ C = r.n ∧ r.s = 1 ∧ len ≤ C := by
     cases rX with
     | slw _ _ _ C _ r hρ hl hs hc => exact ⟨r, C, hρ, rfl, by omega, hs, hl⟩
     | sl0 _ _ _ _ ad hc hn =>
      obtain ⟨r, q1, q2⟩ := hn rfl
      obtain ⟨arr, fr, _, _, p3, p4, _⟩ := hr.row hg3 q1
      omega
    obtain ⟨rfl, hs1, hlC⟩ := hC
    obtain ⟨arr, fr, p1, p2, p3, p4, p5, p6, p7⟩ := hr.row hg3 hρ
    let cells : List aA := c.sub 0 c.size ++ List.replicate (r.n - c.size) .aB
    let cc : bH := .l cells
    let hh : Hp := fun j => if j = id then some (.row cc t) else s.heap.get j
    have hl0 : (c.sub 0 c.size).length = c.size := bH.gW (by omega)
    have hcl : cells.length = r.n := by
     show (c.sub 0 c.size ++ List.replicate (r.n - c.size) aA.aB).length = _
     rw [List.length_append, hl0, List.length_replicate]; omega
    have hcg : ∀ j, j < c.size → cells[j]? = some (c.at j) := fun j hj => by
     show (c.sub 0 c.size ++ List.replicate (r.n - c.size) aA.aB)[j]? = _
     rw [List.getElem?_append_left (by omega), bH.tG (c := c) (by omega) hj, Nat.zero_add]
    have hcs : cells.take len = c.sub 0 len := by
     apply List.ext_getElem?
     intro j
     by_cases hj : j < len
     ·rw [List.getElem?_take, if_pos hj, hcg j (by omega), bH.tG (c := c) (by omega) hj, Nat.zero_add]
     ·rw [List.getElem?_eq_none (by rw [List.length_take]; omega), List.getElem?_eq_none (by rw [bH.gW (by omega)]; omega)]
    have rr : Rel E.P ρ m (at0 hh s.next).heap.get w := by
     refine hr.GZ (c2 := cc) hg3 hρ (by show cells.length ≤ _; omega) (fun j hj => ?_) (fun j => rfl)
     have hj : j < cells.length := hj
     by_cases q : j < c.size
     ·refine .inr ⟨q, ?_⟩
      show nth cells j .aB = _
      have := nU cells j hj
      rw [hcg j q] at this
      injection this with this
      exact this.symm
     ·refine .inl ?_
      show nth cells j .aB = _
      have := nU cells j hj
      rw [show cells = c.sub 0 c.size ++ List.replicate (r.n - c.size) aA.aB from rfl, List.getElem?_append_right (by omega), List.getElem?_replicate, if_pos (by omega)] at this
      injection this with this
      exact this.symm
    have hgx' : hh xid = some (.row xc t) := by show (if xid = id then _ else _) = _; rw [if_neg (Ne.symm b5)]; exact hgx
    obtain ⟨v', u, r1, r2, r3⟩ := BW (W.at_ hh s.next id len r.n k xid cells xc (if_pos rfl) hcl hlC (by omega) c1 c2 (by omega) (by rw [hcs]; exact b7) hgx' hxc hone hxn b0 (Ne.symm b5))
    rw [hcs] at r3
    have hun : u.next ≤ s.next + 1 := by rcases r3 with ⟨_, q, _⟩ | ⟨_, q, _⟩ <;> omega
    refine (mF pA f _ _ _ _ r1 r2 ρ m w _ rr (fun id hid => hfr id ⟨hid.1, by have := hid.2; omega⟩) (GV (.slx id 0 len r.n 1 r hρ hlC) (.int _ _) rY)).imp fun x w' ⟨ρ', p, q⟩ => ?_
    rcases r3 with ⟨rfl, q2, q3, c', q4, q5, q6⟩ | ⟨rfl, q2, q6⟩
    ·have hρ' : ρ' id = some r := p.ren _ _ hρ
     have hnew : ρ' s.next = none := by
      cases he : ρ' s.next with
      | none => rfl
      | some z =>
       rcases p.new s.next (by rw [he]; simp) with y | y
       ·exact absurd (hfr s.next ⟨Nat.le_refl _, by omega⟩) y
       ·have := y.2; simp only [q2] at this; exact absurd this (Nat.lt_irrefl _)
     have hlen : (fG (c.sub 0 len) k (xc.at 0)).length = len + 1 := by rw [j8, bH.gW (by omega)]
     have rel2 := p.rel.GZ (id := id) (c := .l c') (c2 := .l (fG (c.sub 0 len) k (xc.at 0))) (t := t) (r := r) (h' := fun j => if j = id then some (.row (.l (fG (c.sub 0 len) k (xc.at 0))) t) else u.heap.get j) (by rw [q6, if_pos rfl]) hρ'
      (by show (fG (c.sub 0 len) k (xc.at 0)).length ≤ _; omega)
      (fun j hj => by
       have hj : j < len + 1 := by rw [← hlen]; exact hj
       have hj2 : j < c'.length := by omega
       refine .inr ⟨hj2, ?_⟩
       show nth (fG (c.sub 0 len) k (xc.at 0)) j .aB = nth c' j .aB
       have z1 := nU (fG (c.sub 0 len) k (xc.at 0)) j (by omega)
       have z2 := nU c' j hj2
       rw [← q5, List.getElem?_take, if_pos hj, z2] at z1
       injection z1 with z1
       rw [q5] at z1
       exact z1.symm) (fun j => rfl)
     have rel3 := rel2.GY (h' := s'.heap.get) (id := id) (id' := s.next) (b := .row (.l (fG (c.sub 0 len) k (xc.at 0))) t) (r := r) (if_pos rfl) hρ' hnew (fun j => by
      rw [k4 j]
      by_cases y1 : j = s.next
      ·simp [y1]
      ·by_cases y2 : j = id
       ·simp [y1, y2]
       ·simp only [if_neg y1, if_neg y2]
        rw [q6 j, if_neg y2]
        exact (if_neg y2).symm)
     have le2 : gU ρ' (ρ'.put s.next r) := gU.put hnew
     refine ⟨ρ'.put s.next r, ⟨fun j z hz => le2 _ _ (p.ren j z hz), fun j hj => ?_, p.mem, rel3, p.fr, by omega⟩, ?_⟩
     ·by_cases y : j = s.next
      ·exact .inr ⟨by omega, by omega⟩
      ·have : ρ' j ≠ none := by unfold Ren.put at hj; rwa [if_neg y] at hj
       exact (p.new j this).imp_right fun z => ⟨z.1, by have := z.2; simp only [q2] at this; omega⟩
     ·cases q with
      | slx _ _ _ C2 _ r2 hρ2 hl2 =>
       rw [hρ'] at hρ2
       injection hρ2 with hρ2
       subst hρ2
       rw [h1]
       exact .slw s.next 0 (len + 1) _ 1 r (by unfold Ren.put; rw [if_pos rfl]) hl2 hs1 (by omega)
    ·refine ⟨ρ', ⟨p.ren, fun id hid => (p.new id hid).imp_right fun z => ⟨z.1, by have := z.2; omega⟩, p.mem, p.rel.sub fun j b hj => ?_, p.fr, by omega⟩, ?_⟩
     ·rw [k4] at hj
      rw [q6]
      by_cases y1 : j = s.next
      ·rw [if_pos y1] at hj ⊢; exact hj
      ·rw [if_neg y1] at hj ⊢
       by_cases y2 : j = id
       ·rw [if_pos y2] at hj; cases hj
       ·rw [if_neg y2] at hj
        show (if j = id then _ else _) = _
        rw [if_neg y2]; exact hj
     ·rw [h1]; exact q
  ·exact (aD g5).elim
 ·exact (aD h).elim
theorem A3 {E : Env} {f : FuncId} {act : List aA → M aA} (W : ∀ args s v s', (act args).run s = .ok v s' → bU s' → fS s s' ∧ Wp (bO E (aX E) f args) s.heap.get s.next fun v' h' n' => v' = v ∧ h' = s.heap.get ∧ n' = s.next) : kM E.P f act := by
 intro args s v s' h ho ρ m w xs hr hfr hx
 obtain ⟨e, hw⟩ := W args s v s' h ho
 obtain ⟨v', t, r1, r2, rfl, r4, r5⟩ := BW hw
 have rr : Rel E.P ρ m (at0 s.heap.get s.next).heap.get w := hr.congr fun _ => rfl
 have no : ∀ id, ¬ New (at0 s.heap.get s.next) t id := fun id hid => by
  have h1 : s.next ≤ id := hid.1
  have h2 := hid.2
  omega
 refine (mF pA f _ _ _ _ r1 r2 ρ m w _ rr (fun id hid => absurd hid (no id)) hx).imp fun x w' ⟨ρ', p, q⟩ => ?_
 refine ⟨ρ', ⟨p.ren, fun id hid => (p.new id hid).elim .inl fun z => absurd z (no id), p.mem, p.rel.congr fun id => ?_, p.fr, by rw [e.next]; exact Nat.le_refl _⟩, q⟩
 rw [e.heap, r4]
theorem xY {cs : List aA} {l : List UInt8} {s s' : St} (h : (nG cs).run s = .ok l s') (ho : bU s') : fS s s' ∧ cs.all oC = true ∧ l = cs.map j4 := by
 unfold nG at h
 obtain ⟨_, s1, h1, h2, ho1, _, _⟩ := M.aJ h ho
 obtain ⟨hall, e1⟩ := eK h1 ho1
 obtain ⟨rfl, rfl⟩ := aC h2
 exact ⟨e1, hall, rfl⟩
theorem vT {a : aA} {l : List UInt8} {s s' : St} (h : (jT a).run s = .ok l s') (ho : bU s') : fS s s' ∧ ∀ {α : Type} {f : List UInt8 → M α} {n : Nat} {Q : α → Hp → Nat → Prop}, Wp (f l) s.heap.get n Q → Wp ((jT a).bind f) s.heap.get n Q := by
 cases a with
 | aT => obtain ⟨rfl, rfl⟩ := aC h; exact ⟨.refl _, fun hw => by simp only [jT, aI]; exact hw⟩
 | emp => obtain ⟨rfl, rfl⟩ := aC h; exact ⟨.refl _, fun hw => by simp only [jT, aI]; exact hw⟩
 | str l => obtain ⟨rfl, rfl⟩ := aC h; exact ⟨.refl _, fun hw => by simp only [jT, aI]; exact hw⟩
 | sl id off len cap sz =>
  obtain ⟨rfl, h1⟩ := eH h
  obtain ⟨cs, s1, h2, h3, ho1, _, _⟩ := M.aJ h1 ho
  obtain ⟨e3, q1, q2⟩ := xY h3 ho
  unfold aZ at h2
  obtain ⟨b, s2, h4, h5, ho2, _, _⟩ := M.aJ h2 ho1
  obtain ⟨hg, e1⟩ := eC h4
  obtain ⟨c, t, rfl, h6⟩ := iU h5
  obtain ⟨_, s3, h7, h8, ho3, _, _⟩ := M.aJ h6 ho1
  obtain ⟨hb, e2⟩ := eK h7 ho3
  obtain ⟨rfl, rfl⟩ := aC h8
  refine ⟨(e1.trans e2).trans e3, fun hw => ?_⟩
  subst q2
  simp only [jT, aZ, nG, bL, bind_assoc, gC, hg, Option.some.injEq, exists_eq_left', cW, fQ, show (Nat.beq 1 1) = true from rfl, aI, hb, q1, true_and]
  exact hw
 | isl g sz off len =>
  obtain ⟨rfl, h1⟩ := eH h
  obtain ⟨cs, s1, h2, h3, ho1, _, _⟩ := M.aJ h1 ho
  obtain ⟨e3, q1, q2⟩ := xY h3 ho
  unfold aZ at h2
  obtain ⟨_, s3, h7, h8, ho3, _, _⟩ := M.aJ h2 ho1
  obtain ⟨hb, e2⟩ := eK h7 ho3
  obtain ⟨rfl, rfl⟩ := aC h8
  refine ⟨e2.trans e3, fun hw => ?_⟩
  subst q2
  simp only [jT, aZ, nG, bL, bind_assoc, fQ, show (Nat.beq 1 1) = true from rfl, aI, hb, q1, true_and]
  exact hw
 | _ => exact (aD h).elim
theorem BE {x y : aA} {v : aA} {s s' : St} (h : (dB [x, y]).run s = .ok v s') (ho : bU s') : fS s s' ∧ Wp (dB [x, y]) s.heap.get s.next fun v' h' n' => v' = v ∧ h' = s.heap.get ∧ n' = s.next := by
 unfold dB at h
 obtain ⟨a, s1, h1, h2, ho1, _, _⟩ := M.aJ h ho
 obtain ⟨b, s2, h3, h4, ho2, _, _⟩ := M.aJ h2 ho
 obtain ⟨rfl, rfl⟩ := aC h4
 obtain ⟨e1, q1⟩ := vT h1 ho1
 obtain ⟨e2, q2⟩ := vT h3 ho2
 refine ⟨e1.trans e2, ?_⟩
 unfold dB
 refine q1 ?_
 rw [e1.heap] at q2
 exact q2 (aS.2 ⟨rfl, rfl, rfl⟩)
theorem vG {h : Hp} {n : Nat} {x y : aA} {a b : List UInt8} (hx : Bytes h x a) (hy : Bytes h y b) : Rd (dB [x, y]) h n (rid y ++ rid x) (.int .i64 (Lib.compareBytes a b)) := by
 have one : ∀ {v : aA} {l : List UInt8}, Bytes h v l → Rd (jT v) h n (rid v) l := fun {v l} hb => by
  cases hb with
  | aT => exact Rd.pure _
  | isl g off l hf =>
   simp only [jT, aZ, nG, bL, show (Nat.beq 1 1) = true from rfl]
   rw [jS g l.length off (l.map u8) (by simp) (fun j hj => by rw [hf j (by simpa using hj)]; simp)]
   refine Rd.bind (i1 := []) (i2 := []) (Rd.bind (i1 := []) (i2 := []) (Rd.ob (dQ (Nat.le_refl _))) (Rd.pure _)) ?_
   refine Rd.bind (i1 := []) (i2 := []) (Rd.ob (tZ l)) ?_
   rw [oS]
   exact Rd.pure _
  | sl id off cap c e l hh hs hc =>
   have := bH.uB (c := c) (off := off) (l := l.map u8) (by simpa using hs) (fun j hj => by rw [hc j (by simpa using hj)]; simp)
   simp only [List.length_map] at this
   simp only [jT, aZ, nG, bL, show (Nat.beq 1 1) = true from rfl]
   refine Rd.bind (i1 := [id]) (i2 := []) (a := l.map u8) (Rd.bind (i1 := [id]) (i2 := []) (Rd.get hh) ?_) ?_
   ·simp only [cW]
    refine Rd.bind (i1 := []) (i2 := []) (Rd.ob (dQ hs)) ?_
    rw [this]
    exact Rd.pure _
   ·refine Rd.bind (i1 := []) (i2 := []) (Rd.ob (tZ l)) ?_
    rw [oS]
    exact Rd.pure _
 unfold dB
 refine Rd.bind (i2 := rid y) (one hx) ?_
 exact Rd.bind (i1 := rid y) (i2 := []) (one hy) (Rd.pure _)
theorem CV {E : Env} (f : FuncId) : ∀ {l : List (rU E.P)} {args : List aA} {k : M aA}, (l.all fun x => !(x.f.beq f)) = true → oD E l f args k = k
 | [], _, _, _ => rfl
 | x :: l, _, _, h => by
  rw [List.all_cons, Bool.and_eq_true] at h
  unfold oD
  cases c : x.f.beq f with
  | true => rw [c] at h; cases h.1
  | false => exact CV f h.2
theorem I1 {P : Program} {l : List (rV P)} (f : FuncId) (h : (l.all fun x => !(x.fn.beq f)) = true) : ∀ k, nV l f k = true := fun k => by
 unfold nV
 rw [List.all_eq_true] at h ⊢
 intro x hx
 have := h x hx
 cases c : x.fn.beq f with
 | true => rw [c] at this; cases this
 | false => rfl
def kG : List (Nat × aA) → List aA
 | [] => []
 | x :: l => List.replicate x.1 x.2 ++ kG l
def rle : Bool → List Nat → List Bool
 | _, [] => []
 | b, n :: l => List.replicate n b ++ rle (!b) l
abbrev T := true
abbrev F := false
end Go.Am
set_option linter.unusedSimpArgs false
set_option linter.unusedVariables false
namespace Go.Am
open Go
variable {E : Env} {h : Hp} {n : Nat}
def j6 (b : Nat) : List (aA × aA) → List Ent
  | [] => []
  | e :: es => (e.1, e.2, b) :: j6 (b + 1) es
theorem B7 : ∀ (l : List (aA × aA)) (b : Nat), (j6 b l).length = l.length
  | [], _ => rfl
  | _ :: l, b => by simp [j6, B7 l]
theorem B8 : ∀ (l : List (aA × aA)) (b i : Nat), (j6 b l)[i]? = l[i]?.map fun e => (e.1, e.2, b + i)
  | [], _, _ => by simp [j6]
  | e :: l, b, 0 => by simp [j6]
  | e :: l, b, i + 1 => by
    simp only [j6, List.getElem?_cons_succ, B8 l (b + 1) i]
    congr 1
    funext e
    rw [show b + 1 + i = b + (i + 1) by omega]
theorem B9 : ∀ (l m : List (aA × aA)) (b : Nat), j6 b (l ++ m) = j6 b l ++ j6 (b + l.length) m
  | [], m, b => by simp [j6]
  | e :: l, m, b => by simp only [List.cons_append, j6, B9 l m (b + 1), List.length_cons]; rw [show b + 1 + l.length = b + (l.length + 1) by omega]
theorem EF : ∀ (l : List (aA × aA)) (b i j : Nat), i < l.length → qJ ((b + i : Nat) : Int) (j6 b l) j = some (j + i)
  | [], _, i, _, h => by simp at h
  | e :: l, b, 0, j, _ => by simp [j6, qJ]
  | e :: l, b, i + 1, j, h => by
    have : ((b : Int) == ((b + (i + 1) : Nat) : Int)) = false := by
      rw [beq_eq_false_iff_ne]; omega
    simp only [j6, qJ, this]
    have := EF l (b + 1) i (j + 1) (by simpa using h)
    rw [show b + (i + 1) = b + 1 + i by omega, this]
    congr 1; omega
theorem B6 : ∀ (l : List (aA × aA)) (b i : Nat) (v : aA), pX (j6 b l) i v = j6 b (l.modify i fun e => (e.1, v))
  | [], _, i, _ => by cases i <;> rfl
  | e :: l, b, 0, v => by simp [j6, pX]
  | e :: l, b, i + 1, v => by
    have := B6 l (b + 1) i v
    simp only [pX] at this
    simp only [j6, pX, List.modify_succ_cons, this]
def hB (p : aA → Bool) : List (aA × aA) → Nat → Option (Nat × aA)
  | [], _ => none
  | e :: es, i => if p e.1 then some (i, e.2) else hB p es (i + 1)
theorem oY {kt : TypeId} {k : aA} {p : aA → Bool} : ∀ (l : List (aA × aA)) (b i : Nat), (∀ e ∈ l, bF E kt k e.1 = M.pure (p e.1)) → mD E kt k (j6 b l) i = M.pure (hB p l i)
  | [], _, _, _ => rfl
  | e :: l, b, i, h => by
    simp only [j6, mD, h e (List.mem_cons_self ..), aI, hB]
    cases p e.1 with
    | true => simp
    | false => simp only [Bool.false_eq_true, if_false]; exact oY l (b + 1) (i + 1) fun e he => h e (List.mem_cons_of_mem _ he)
theorem vX {p : aA → Bool} : ∀ {l : List (aA × aA)} {i j : Nat} {v : aA}, hB p l i = some (j, v) → ∃ q k, j = i + q ∧ l[q]? = some (k, v) ∧ p k = true
  | [], _, _, _, h => by simp [hB] at h
  | e :: l, i, j, v, h => by
    simp only [hB] at h
    split at h
    · rename_i c
      injection h with h; injection h with h1 h2
      subst h1; subst h2
      exact ⟨0, e.1, rfl, rfl, c⟩
    · obtain ⟨q, k, h1, h2, h3⟩ := vX h
      exact ⟨q + 1, k, by omega, h2, h3⟩
section
variable {t kt et : TypeId} {k : aA} {p : aA → Bool} {id b ck : Nat} {l : List (aA × aA)}
def iS (h : Hp) (id b : Nat) (l : List (aA × aA)) : Prop := h id = some (.map (j6 b l) (b + l.length))
theorem iS.aO {h' : Hp} (m : iS h id b l) (hk : h' id = h id) : iS h' id b l := hk.trans m
theorem iS.lookup (m : iS h id b l) (ht : und E t = M.pure (.map kt et)) (hk : lA E 100 kt k = M.pure ()) (hp : ∀ e ∈ l, bF E kt k e.1 = M.pure (p e.1)) {z : aA} (hz : cF E et = M.pure z) :
    Rd (kH E t (.map id) k false) h n [id] (((hB p l 0).map (·.2)).getD z) := by
  simp only [kH, ht, aI, D7, bind_assoc]
  have : Rd ((fX id).bind fun a => (lX (fun es _ => M.pure es) a).bind fun es => (lA E 100 kt k).bind fun _ => (mD E kt k es 0).bind fun r => match r with
      | some p => M.pure (okV false p.2 true)
      | none => (cF E et).bind fun z => M.pure (okV false z false)) h n ([] ++ [id]) (((hB p l 0).map (·.2)).getD z) := by
    refine Rd.bind (Rd.get m) ?_
    simp only [lX, aI, hk, oY l b 0 hp]
    cases hB p l 0 with
    | none => simp only [hz, aI]; exact Rd.pure _
    | some x => exact Rd.pure _
  exact this
theorem iS.FV (m : iS h id b l) (ht : und E t = M.pure (.map kt et)) (hk : lA E 100 kt k = M.pure ()) (hp : ∀ e ∈ l, bF E kt k e.1 = M.pure (p e.1)) {i : Nat} {v : aA} (ha : hB p l 0 = some (i, v)) (hs : ∀ e, l[i]? = some e → lN e.1 k = true) :
    Wr (iP E t (.map id) k) h n [id] [id] (aA.tup [v, .int .i64 ((b + i : Nat) : Int)]) h := by
  have hu : Go.Am.upd h id (some (.map (j6 b l) (b + l.length))) = h := zV m
  obtain ⟨q, kk, e1, e2, e3⟩ := vX ha
  rw [Nat.zero_add] at e1
  subst e1
  have key : Wr ((fX id).bind (lX fun es ck => (lA E 100 kt k).bind fun _ => (mD E kt k es 0).bind fun r => match r with
        | some p => (eE "entry" es[p.1]?).bind fun e => match lN e.1 k with
          | true => (jK id (.map es ck)).bind fun _ => M.pure (aA.tup [p.2, .int .i64 e.2.2])
          | false => bJ "a key that is not the same bit by bit"
        | none => (cF E et).bind fun z => (jK id (.map (es ++ [(k, z, ck)]) (ck + 1))).bind fun _ => M.pure (aA.tup [z, .int .i64 ck]))) h n ([] ++ [id]) [id] (aA.tup [v, .int .i64 ((b + i : Nat) : Int)]) (Go.Am.upd h id (some (.map (j6 b l) (b + l.length)))) := by
    refine Wr.bind (Rd.get m) ?_
    simp only [lX, hk, aI, oY l b 0 hp, ha, B8, e2, Option.map_some, eE, hs _ e2]
    exact (Wr.set m).ret
  rw [hu] at key
  simp only [iP, ht, aI]
  exact key
theorem iS.FW (m : iS h id b l) (ht : und E t = M.pure (.map kt et)) (hk : lA E 100 kt k = M.pure ()) (hp : ∀ e ∈ l, bF E kt k e.1 = M.pure (p e.1)) (ha : hB p l 0 = none) {z : aA} (hz : cF E et = M.pure z) :
    ∃ h2, Wr (iP E t (.map id) k) h n [id] [id] (aA.tup [z, .int .i64 ((b + l.length : Nat) : Int)]) h2 ∧ iS h2 id b (l ++ [(k, z)]) ∧ ∀ j, j ≠ id → h2 j = h j := by
  refine ⟨Go.Am.upd h id (some (.map (j6 b l ++ [(k, z, b + l.length)]) (b + l.length + 1))), ?_, ?_, fun j hj => aP _ _ hj⟩
  · have key : Wr ((fX id).bind (lX fun es ck => (lA E 100 kt k).bind fun _ => (mD E kt k es 0).bind fun r => match r with
        | some p => (eE "entry" es[p.1]?).bind fun e => match lN e.1 k with
          | true => (jK id (.map es ck)).bind fun _ => M.pure (aA.tup [p.2, .int .i64 e.2.2])
          | false => bJ "a key that is not the same bit by bit"
        | none => (cF E et).bind fun z => (jK id (.map (es ++ [(k, z, ck)]) (ck + 1))).bind fun _ => M.pure (aA.tup [z, .int .i64 ck]))) h n ([] ++ [id]) [id] (aA.tup [z, .int .i64 ((b + l.length : Nat) : Int)]) (Go.Am.upd h id (some (.map (j6 b l ++ [(k, z, b + l.length)]) (b + l.length + 1)))) := by
      refine Wr.bind (Rd.get m) ?_
      simp only [lX, hk, aI, oY l b 0 hp, ha, hz]
      exact (Wr.set m).ret
    simp only [iP, ht, aI]
    exact key
  · unfold iS
    rw [bE, B9, List.length_append]
    rfl
theorem iS.store (m : iS h id b l) {i : Nat} (hi : i < l.length) {v : aA} :
    ∃ h2, Wr (gT (.map id) (.int .i64 ((b + i : Nat) : Int)) v) h n [id] [id] undef h2 ∧ iS h2 id b (l.modify i fun e => (e.1, v)) ∧ ∀ j, j ≠ id → h2 j = h j := by
  refine ⟨Go.Am.upd h id (some (.map (pX (j6 b l) i v) (b + l.length))), ?_, ?_, fun j hj => aP _ _ hj⟩
  · show Wr _ h n ([] ++ [id]) [id] undef _
    simp only [gT]
    refine Wr.bind (Rd.get m) ?_
    simp only [lX, dF, EF l b i 0 hi, eE, aI, Nat.zero_add]
    exact (Wr.set m).ret
  · unfold iS
    rw [bE, B6, List.length_modify]
theorem iS.clear (m : iS h id b l) {ts : List TypeId} {t0 : TypeId} (ht : und E t0 = M.pure (.map kt et)) : ∃ h2, Wr (nB E (t0 :: ts) (.map id)) h n [id] [id] (aA.tup []) h2 ∧ iS h2 id (b + l.length) [] ∧ ∀ j, j ≠ id → h2 j = h j := by
  refine ⟨Go.Am.upd h id (some (.map [] (b + l.length))), ?_, bE _ _ _, fun j hj => aP _ _ hj⟩
  have : Wr ((fX id).bind (lX fun _ ck => (jK id (.map [] ck)).bind fun _ => M.pure (aA.tup []))) h n ([] ++ [id]) [id] (aA.tup []) (Go.Am.upd h id (some (.map [] (b + l.length)))) := by
    refine Wr.bind (Rd.get m) ?_
    simp only [lX]
    exact (Wr.set m).ret
  simp only [nB, ht, aI]
  exact this
end
end Go.Am
set_option linter.unusedSimpArgs false
set_option linter.unusedVariables false
namespace Go.Am
open Go
variable {E : Env} {h : Hp} {n : Nat}
theorem Rd.wr {m : M aA} {ids : List Nat} {v : aA} (r : Rd m h n ids v) : Wr m h n ids [] v h := by
 refine ⟨fun s hs => ?_⟩
 obtain ⟨s', o, e, a, b, c, d, w, g, q⟩ := r.r s hs
 exact ⟨s', o, e, by rw [a, hs.hp], b, c, d, w, g, q⟩
def Ex (m : M aA) (h : Hp) (n : Nat) (v : aA) (h' : Hp) : Prop := ∃ rs ws, Wr m h n rs ws v h'
theorem Ex.rd {m : M aA} {ids : List Nat} {v : aA} (r : Rd m h n ids v) : Ex m h n v h := ⟨_, _, r.wr⟩
theorem Ex.wr {m : M aA} {rs ws : List Nat} {v : aA} {h' : Hp} (r : Wr m h n rs ws v h') : Ex m h n v h' := ⟨_, _, r⟩
theorem Ex.pure {v : aA} : Ex (M.pure v) h n v h := .rd (.pure v)
theorem kD {rec : Rec} {ops : List Oper} {o : Oper} {tm : List aA} (hg : o.guard = none) : opV E rec ops o tm = execOp E rec tm o.op := by
 unfold opV wanted
 rw [hg]; rfl
section
variable {rec : Rec} {ops : Array Oper} {J : Array Bool → List aA → Hp → Prop}
theorem HI (hrec : mH E.P rec)
  (hs : ∀ listed tm h, listed.size = ops.size → J listed tm h → ∀ i o, ops[i]? = some o → listed.getD i false = false → (∀ e ∈ o.after, Region.binds .any e = true → listed.getD e.on false = true) →
   ∃ v h', Ex (opV E rec ops.toList o tm) h n v h' ∧ J (listed.setIfInBounds i true) (cE tm o.dst v) h')
  (hback : rQ 0 ops.toList = true)
  {ρ₀ : Ren} {m : Mem} {w₀ : World} {a₀ : Act} {ro : Option Nat} {nn : Nat} {Q : Exit → Act → World → Prop}
  (hQ : ∀ listed tm h a w ρ, (∀ k, k < ops.size → listed.getD k false = true) → J listed tm h → Rel E.P ρ m h w → RL ρ m tm a.tmps → gU ρ₀ ρ → (∀ id, ρ id ≠ none → ρ₀ id ≠ none) → Fr w₀ w → a.defers = a₀.defers → Q .normal a w) :
  ∀ (fuel : Nat) (listed : Array Bool), listed.size = ops.size → (listed.toList.filter (!·)).length ≤ fuel → ∀ a w ρ h tm, J listed tm h → Rel E.P ρ m h w → RL ρ m tm a.tmps → gU ρ₀ ρ → (∀ id, ρ id ≠ none → ρ₀ id ≠ none) → Fr w₀ w → a.defers = a₀.defers →
   wpAnyIn (Fw ro) nn E.P .any ops Q fuel listed a w := by
 intro fuel
 have lst : ∀ (listed : Array Bool), listed.size = ops.size → ∀ k, listed.getD k true = false ↔ (k < ops.size ∧ ¬ listed.getD k false = true) := by
  intro listed hsz k
  by_cases hk : k < ops.size
  ·have : k < listed.size := by omega
   simp [Array.getD, this, hk]
  ·have : ¬ k < listed.size := by omega
   simp [Array.getD, this, hk]
 have done : ∀ (listed : Array Bool), listed.size = ops.size → Region.ready .any ops listed = [] → ∀ k, k < ops.size → listed.getD k false = true := by
  intro listed hsz hr k
  induction k using Nat.strongRecOn with
  | _ k ih =>
   intro hk
   by_cases hl : listed.getD k false = true
   ·exact hl
   ·have ho : ops[k]? = some ops[k] := Array.getElem?_eq_getElem hk
    have : k ∈ Region.ready .any ops listed := mem_ready.2 ⟨(lst listed hsz k).2 ⟨hk, hl⟩, ops[k], ho, fun e he hb => by
     have := qM ops.toList 0 hback k ops[k] (by rw [Array.getElem?_toList]; exact ho) e he hb
     exact ih e.on (by omega) (by omega)⟩
    rw [hr] at this
    cases this
 induction fuel with
 | zero =>
  intro listed hsz hc a w ρ h tm hj hr ht hle hnew hfr hd
  have hr' : Region.ready .any ops listed = [] := by
   cases hr' : Region.ready .any ops listed with
   | nil => rfl
   | cons j l =>
    have hj : j ∈ Region.ready .any ops listed := by rw [hr']; exact List.mem_cons_self
    obtain ⟨h1, o, h2, _⟩ := mem_ready.1 hj
    have hj' := (lst listed hsz j).1 h1
    have hlt : j < listed.size := by omega
    have := qH listed.toList (by omega) j listed[j] (by simp [hlt])
    exfalso
    apply hj'.2
    simp [Array.getD, hlt, this]
  exact ⟨hr', hQ listed tm h a w ρ (done listed hsz hr') hj hr ht hle hnew hfr hd⟩
 | succ fuel ih =>
  intro listed hsz hc a w ρ h tm hj hr ht hle hnew hfr hd
  refine ⟨fun hr' => hQ listed tm h a w ρ (done listed hsz hr') hj hr ht hle hnew hfr hd, fun i hi => ?_⟩
  obtain ⟨h1, o, h2, h3⟩ := mem_ready.1 hi
  have hi' := (lst listed hsz i).1 h1
  unfold wpOpIn
  rw [h2]
  obtain ⟨v, h', ⟨rs, ws, hwr⟩, hj'⟩ := hs listed tm h hsz hj i o h2 (by simpa using hi'.2) h3
  obtain ⟨s', ob, e1, e2, e3, e4, e5, e6, e7, e8⟩ := hwr.r (at0 h n) (lH h n)
  have hok : bU s' := by unfold bU; rw [e7]; simpa [at0] using e8
  have hnx : s'.next = n := e3
  refine yO hrec e1 hok (s := at0 h n) hr (fun id hid => by
   have h1 : n ≤ id := hid.1
   have h2 : id < s'.next := hid.2
   omega) ht (fun x w' ρ' hpost hx => ?_)
  refine ih (listed.setIfInBounds i true) (by simpa using hsz) ?_ _ w' ρ' h' (cE tm o.dst v) hj' (by rw [← e2]; exact hpost.rel) (tI (ht.mono hpost.ren hpost.mle) o.dst hx) (fun id r q => hpost.ren id r (hle id r q)) (fun id q => ?_) (hfr.trans hpost.fr) (by rw [Act.pZ, hd])
  ·have hlt : i < listed.size := by omega
   have hf : listed.toList[i]? = some false := by
    have : listed.getD i true = listed[i] := by simp [Array.getD, hlt]
    rw [this] at h1
    simp [hlt, h1]
   have := sN listed.toList i hf
   simp only [Array.toList_setIfInBounds]
   omega
  ·rcases hpost.new id q with q | q
   ·exact hnew id q
   ·have h1 : n ≤ id := q.1
    have h2 : id < s'.next := q.2
    omega
end
set_option linter.defProp false
def gE := (And.intro @execOp.eq_1 (And.intro @execOp.eq_2 (And.intro @execOp.eq_3 (And.intro @execOp.eq_4 (And.intro @execOp.eq_5 (And.intro @execOp.eq_6 (And.intro @execOp.eq_7 (And.intro @execOp.eq_8 (And.intro @execOp.eq_9 (And.intro @execOp.eq_10 (And.intro @execOp.eq_11 (And.intro @execOp.eq_12 (And.intro @execOp.eq_13 (And.intro @execOp.eq_14 (And.intro @execOp.eq_15 (And.intro @execOp.eq_16 (And.intro @execOp.eq_17 (And.intro @execOp.eq_18 (And.intro @execOp.eq_19 (And.intro @execOp.eq_20 (And.intro @execOp.eq_21 (And.intro @execOp.eq_22 (And.intro @execOp.eq_23 (And.intro @execOp.eq_24 (And.intro @execOp.eq_25 (And.intro @execOp.eq_26 (And.intro @execOp.eq_27 (And.intro @execOp.eq_28 (And.intro @execOp.eq_29 (And.intro @execOp.eq_30 (And.intro @execOp.eq_31 (And.intro @execOp.eq_32 (And.intro @execOp.eq_33 (And.intro @execOp.eq_34 (And.intro @opd.eq_1 (And.intro @opd.eq_2 (And.intro @opd.eq_3 (And.intro @opd.eq_4 (And.intro @eN.eq_1 (And.intro @eN.eq_2 (And.intro @ofValue.eq_1 (And.intro @ofValue.eq_2 (And.intro @ofValue.eq_3 (And.intro @ofValue.eq_4 (And.intro @ofValue.eq_5 (And.intro @ofValue.eq_6 (And.intro @ofValue.eq_7 (And.intro @ofValue.eq_8 (And.intro @ofValue.eq_9 (And.intro @ofValue.eq_10 (And.intro @ofValue.eq_11 (And.intro @eB.eq_1 (And.intro @ofList.eq_1 (And.intro @ofList.eq_2 (And.intro @fM.eq_1 (And.intro @fM.eq_2 (And.intro @cE.eq_1 (And.intro @cE.eq_2 (And.intro @put.eq_1 (And.intro @put.eq_2 (And.intro @put.eq_3 (And.intro @nth.eq_1 (And.intro @nth.eq_2 (And.intro @nth.eq_3 (And.intro @aN.eq_1 (And.intro @aN.eq_2 (And.intro @aN.eq_3 (And.intro @aN.eq_4 (And.intro @cN.eq_1 (And.intro @fW.eq_1 (And.intro @fW.eq_2 (And.intro @fU.eq_1 (And.intro @fU.eq_2 (And.intro @eF.eq_1 (And.intro @eF.eq_2 (And.intro @und.eq_1 (And.intro @sizeOf.eq_1 (And.intro @cF.eq_1 (And.intro @intOp.eq_1 (And.intro @intOp.eq_2 (And.intro @intOp.eq_3 (And.intro @intOp.eq_4 (And.intro @intOp.eq_5 (And.intro @intOp.eq_6 (And.intro @intOp.eq_7 (And.intro @intOp.eq_8 (And.intro @intOp.eq_9 (And.intro @intOp.eq_10 (And.intro @intOp.eq_11 (And.intro @intOp.eq_12 (And.intro @intOp.eq_13 (And.intro @intOp.eq_14 (And.intro @intOp.eq_15 (And.intro @intOp.eq_16 (And.intro @intOp.eq_17 (And.intro @cQ.eq_1 (And.intro @cQ.eq_2 (And.intro @cR.eq_1 (And.intro @cR.eq_2 (And.intro @cR.eq_3 (And.intro @fB.eq_1 (And.intro @fB.eq_2 (And.intro @dF.eq_1 (And.intro @dF.eq_2 (And.intro @branch.eq_1 (And.intro @branch.eq_2 (And.intro @branch.eq_3 (And.intro @nilCheck.eq_1 (And.intro @nilCheck.eq_2 (And.intro @nilCheck.eq_3 (And.intro @nilCheck.eq_4 (And.intro @nilCheck.eq_5 (And.intro @nilCheck.eq_6 (And.intro @extract.eq_1 (And.intro @extract.eq_2 (And.intro @eE.eq_1 (And.intro @eE.eq_2 (And.intro @eG.eq_1 (And.intro @bT.eq_1 (And.intro @bT.eq_2 (And.intro @bT.eq_3 (And.intro @bX.eq_1 (And.intro @bX.eq_2 (And.intro @fieldAddr.eq_1 (And.intro @field.eq_1 (And.intro @cC (And.intro @aU (And.intro @cZ (And.intro @bN (And.intro @List.getElem?_cons_succ.{0} (And.intro @List.getElem?_cons_zero.{0} (And.intro @List.append_eq.{0} (And.intro @List.cons_append.{0} (And.intro @List.nil_append.{0} (And.intro @List.append_nil.{0} (And.intro @List.length_cons.{0} (And.intro @List.length_nil.{0} (And.intro @not_true_eq_false (And.intro @not_false_eq_true (And.intro @decide_true (And.intro @decide_false (And.intro @Bool.not_true (And.intro @Bool.not_false (And.intro @Bool.and_true (And.intro @Bool.true_and (And.intro @Bool.and_false (And.intro @Bool.false_and (And.intro @Bool.or_true (And.intro @Bool.true_or (And.intro @Bool.or_false (And.intro @Bool.false_or (And.intro @and_true (And.intro @true_and (And.intro @and_self (And.intro @nc0 (And.intro @nc1 (And.intro @cJ (And.intro @cI (And.intro @cH (And.intro @Nat.zero_add (And.intro @Nat.add_zero (And.intro @Int.toNat_zero (And.intro @Nat.zero_mul (And.intro @aS (And.intro @beq_self_eq_true.{0} (And.intro @bne_self_eq_false.{0} (And.intro @j5 (And.intro @kK (And.intro @jH (And.intro @iQ (And.intro @jG (And.intro @mV (And.intro @mY (And.intro @mW (And.intro @mX (And.intro @mU (And.intro @kJ (And.intro @mT (And.intro @jD @jF)))))))))))))))))))))))))))))))))))))))))))))))))))))))))))))))))))))))))))))))))))))))))))))))))))))))))))))))))))))))))))))))))))))))))))))))))))))))))))))))))))))))))))))))))))
def gF := (And.intro @vN (And.intro @vM (And.intro @vL (And.intro @vK (And.intro @vJ (And.intro @vI (And.intro @vQ (And.intro @vP (And.intro @vH (And.intro @vO (And.intro @JN (And.intro @JO (And.intro @JQ (And.intro @JP (And.intro @List.all_cons.{0} (And.intro @List.all_nil.{0} (And.intro @Bool.not_false (And.intro @Bool.true_or (And.intro @Bool.and_true @Bool.true_and)))))))))))))))))))
end Go.Am
set_option maxRecDepth 100000
set_option linter.defProp false
namespace Go.Am.Ytlgebaofkolkoaa.Ins
open Go Go.Am Go.Proofs
noncomputable def ty2 : TE Try.prog := ⟨2, ⟨Try.t2.desc, 1, 8, .int .i64 (0)⟩, ⟨⟨Try.t2, _, rfl, rfl, rfl, rfl, rfl⟩, rfl, rfl, Try.underlying2⟩⟩
noncomputable def ty3 : TE Try.prog := ⟨3, ⟨Try.t3.desc, 1, 8, .int .i64 (0)⟩, ⟨⟨Try.t3, _, rfl, rfl, rfl, rfl, rfl⟩, rfl, rfl, Try.underlying3⟩⟩
noncomputable def ty4 : TE Try.prog := ⟨4, ⟨Try.t4.desc, 1, 1, .bool false⟩, ⟨⟨Try.t4, _, rfl, rfl, rfl, rfl, rfl⟩, rfl, rfl, Try.underlying4⟩⟩
noncomputable def ty5 : TE Try.prog := ⟨5, ⟨Try.t5.desc, 1, 1, .int .u8 (0)⟩, ⟨⟨Try.t5, _, rfl, rfl, rfl, rfl, rfl⟩, rfl, rfl, Try.underlying5⟩⟩
noncomputable def XN : TE Try.prog := ⟨22, ⟨Try.t22.desc, 1, 8, .fC⟩, ⟨⟨Try.t22, _, rfl, rfl, rfl, rfl, rfl⟩, rfl, rfl, Try.underlying22⟩⟩
noncomputable def OM : TE Try.prog := ⟨24, ⟨Try.t24.desc, 32, 32, .agg (kG [(32, .int .u8 (0))])⟩, ⟨⟨Try.t24, _, rfl, rfl, rfl, rfl, rfl⟩, rfl, rfl, Try.underlying24⟩⟩
noncomputable def GG : TE Try.prog := ⟨25, ⟨Try.t24.desc, 32, 32, .agg (kG [(32, .int .u8 (0))])⟩, ⟨⟨Try.t25, _, rfl, rfl, rfl, rfl, rfl⟩, rfl, rfl, Try.underlying25⟩⟩
noncomputable def OL : TE Try.prog := ⟨26, ⟨Try.t26.desc, 1, 4, .int .u32 (0)⟩, ⟨⟨Try.t26, _, rfl, rfl, rfl, rfl, rfl⟩, rfl, rfl, Try.underlying26⟩⟩
noncomputable def OK : TE Try.prog := ⟨27, ⟨Try.t27.desc, 33, 36, .agg (kG [(32, .int .u8 (0)), (1, .int .u32 (0))])⟩, ⟨⟨Try.t27, _, rfl, rfl, rfl, rfl, rfl⟩, rfl, rfl, Try.underlying27⟩⟩
noncomputable def OJ : TE Try.prog := ⟨28, ⟨Try.t27.desc, 33, 36, .agg (kG [(32, .int .u8 (0)), (1, .int .u32 (0))])⟩, ⟨⟨Try.t28, _, rfl, rfl, rfl, rfl, rfl⟩, rfl, rfl, Try.underlying28⟩⟩
noncomputable def zX : TE Try.prog := ⟨29, ⟨Try.t29.desc, 1, 24, .aT⟩, ⟨⟨Try.t29, _, rfl, rfl, rfl, rfl, rfl⟩, rfl, rfl, Try.underlying29⟩⟩
noncomputable def OI : TE Try.prog := ⟨30, ⟨Try.t30.desc, 70, 128, .agg (kG [(32, .int .u8 (0)), (1, .int .u32 (0)), (2, .int .i64 (0)), (1, .aT), (1, .bool false), (1, .int .i64 (0)), (32, .int .u8 (0))])⟩, ⟨⟨Try.t30, _, rfl, rfl, rfl, rfl, rfl⟩, rfl, rfl, Try.underlying30⟩⟩
noncomputable def fA : TE Try.prog := ⟨31, ⟨Try.t30.desc, 70, 128, .agg (kG [(32, .int .u8 (0)), (1, .int .u32 (0)), (2, .int .i64 (0)), (1, .aT), (1, .bool false), (1, .int .i64 (0)), (32, .int .u8 (0))])⟩, ⟨⟨Try.t31, _, rfl, rfl, rfl, rfl, rfl⟩, rfl, rfl, Try.underlying31⟩⟩
noncomputable def OH : TE Try.prog := ⟨43, ⟨Try.t43.desc, 1, 24, .aT⟩, ⟨⟨Try.t43, _, rfl, rfl, rfl, rfl, rfl⟩, rfl, rfl, Try.underlying43⟩⟩
noncomputable def OG : TE Try.prog := ⟨44, ⟨Try.t44.desc, 1, 24, .aT⟩, ⟨⟨Try.t44, _, rfl, rfl, rfl, rfl, rfl⟩, rfl, rfl, Try.underlying44⟩⟩
noncomputable def XJ : TE Try.prog := ⟨45, ⟨Try.t45.desc, 37, 104, .agg (kG [(1, .int .i64 (0)), (32, .int .u8 (0)), (2, .aT), (2, .int .i64 (0))])⟩, ⟨⟨Try.t45, _, rfl, rfl, rfl, rfl, rfl⟩, rfl, rfl, Try.underlying45⟩⟩
noncomputable def XI : TE Try.prog := ⟨46, ⟨Try.t45.desc, 37, 104, .agg (kG [(1, .int .i64 (0)), (32, .int .u8 (0)), (2, .aT), (2, .int .i64 (0))])⟩, ⟨⟨Try.t46, _, rfl, rfl, rfl, rfl, rfl⟩, rfl, rfl, Try.underlying46⟩⟩
noncomputable def OF : TE Try.prog := ⟨47, ⟨Try.t47.desc, 65, 68, .agg (kG [(32, .int .u8 (0)), (1, .int .u32 (0)), (32, .int .u8 (0))])⟩, ⟨⟨Try.t47, _, rfl, rfl, rfl, rfl, rfl⟩, rfl, rfl, Try.underlying47⟩⟩
noncomputable def OE : TE Try.prog := ⟨48, ⟨Try.t47.desc, 65, 68, .agg (kG [(32, .int .u8 (0)), (1, .int .u32 (0)), (32, .int .u8 (0))])⟩, ⟨⟨Try.t48, _, rfl, rfl, rfl, rfl, rfl⟩, rfl, rfl, Try.underlying48⟩⟩
noncomputable def OD : TE Try.prog := ⟨56, ⟨Try.t56.desc, 1, 8, .fC⟩, ⟨⟨Try.t56, _, rfl, rfl, rfl, rfl, rfl⟩, rfl, rfl, Try.underlying56⟩⟩
noncomputable def SP : TE Try.prog := ⟨57, ⟨Try.t57.desc, 1, 24, .aT⟩, ⟨⟨Try.t57, _, rfl, rfl, rfl, rfl, rfl⟩, rfl, rfl, Try.underlying57⟩⟩
noncomputable def XB : TE Try.prog := ⟨58, ⟨Try.t58.desc, 2, 32, .agg [.fC, .aT]⟩, ⟨⟨Try.t58, _, rfl, rfl, rfl, rfl, rfl⟩, rfl, rfl, Try.underlying58⟩⟩
noncomputable def XA : TE Try.prog := ⟨59, ⟨Try.t58.desc, 2, 32, .agg [.fC, .aT]⟩, ⟨⟨Try.t59, _, rfl, rfl, rfl, rfl, rfl⟩, rfl, rfl, Try.underlying59⟩⟩
noncomputable def X9 : TE Try.prog := ⟨60, ⟨Try.t60.desc, 37, 72, .agg (kG [(1, .int .i64 (0)), (32, .int .u8 (0)), (4, .int .i64 (0))])⟩, ⟨⟨Try.t60, _, rfl, rfl, rfl, rfl, rfl⟩, rfl, rfl, Try.underlying60⟩⟩
noncomputable def X8 : TE Try.prog := ⟨61, ⟨Try.t60.desc, 37, 72, .agg (kG [(1, .int .i64 (0)), (32, .int .u8 (0)), (4, .int .i64 (0))])⟩, ⟨⟨Try.t61, _, rfl, rfl, rfl, rfl, rfl⟩, rfl, rfl, Try.underlying61⟩⟩
noncomputable def OC : TE Try.prog := ⟨95, ⟨Try.t95.desc, 1, 24, .aT⟩, ⟨⟨Try.t95, _, rfl, rfl, rfl, rfl, rfl⟩, rfl, rfl, Try.underlying95⟩⟩
noncomputable def OB : TE Try.prog := ⟨96, ⟨Try.t96.desc, 1, 8, .dL⟩, ⟨⟨Try.t96, _, rfl, rfl, rfl, rfl, rfl⟩, rfl, rfl, Try.underlying96⟩⟩
noncomputable def OA : TE Try.prog := ⟨97, ⟨Try.t97.desc, 2, 32, .agg [.aT, .dL]⟩, ⟨⟨Try.t97, _, rfl, rfl, rfl, rfl, rfl⟩, rfl, rfl, Try.underlying97⟩⟩
noncomputable def O0 : TE Try.prog := ⟨98, ⟨Try.t97.desc, 2, 32, .agg [.aT, .dL]⟩, ⟨⟨Try.t98, _, rfl, rfl, rfl, rfl, rfl⟩, rfl, rfl, Try.underlying98⟩⟩
noncomputable def NZ : TE Try.prog := ⟨99, ⟨Try.t99.desc, 5, 72, .agg [.bool false, .aT, .dL, .aT, .dL]⟩, ⟨⟨Try.t99, _, rfl, rfl, rfl, rfl, rfl⟩, rfl, rfl, Try.underlying99⟩⟩
noncomputable def GH : TE Try.prog := ⟨100, ⟨Try.t99.desc, 5, 72, .agg [.bool false, .aT, .dL, .aT, .dL]⟩, ⟨⟨Try.t100, _, rfl, rfl, rfl, rfl, rfl⟩, rfl, rfl, Try.underlying100⟩⟩
noncomputable def T4 : TE Try.prog := ⟨104, ⟨Try.t104.desc, 40, 128, .agg (kG [(2, .int .i64 (0)), (32, .int .u8 (0)), (2, .aT), (2, .int .i64 (0)), (1, .bool false), (1, .int .i64 (0))])⟩, ⟨⟨Try.t104, _, rfl, rfl, rfl, rfl, rfl⟩, rfl, rfl, Try.underlying104⟩⟩
noncomputable def nC : TE Try.prog := ⟨128, ⟨Try.t128.desc, 1, 8, .fC⟩, ⟨⟨Try.t128, _, rfl, rfl, rfl, rfl, rfl⟩, rfl, rfl, Try.underlying128⟩⟩
noncomputable def SR : TE Try.prog := ⟨161, ⟨Try.t161.desc, 1, 8, .nI⟩, ⟨⟨Try.t161, _, rfl, rfl, rfl, rfl, rfl⟩, rfl, rfl, Try.underlying161⟩⟩
noncomputable def MI : FE Try.prog := ⟨20, ⟨Try.f20.body.getD .skip, 11, [.tmp 2], some (rle true [1, 1, 1, 1, 1, 6])⟩, ⟨⟨Try.f20, Try.func20, rfl, rfl, rfl⟩, Try.call20⟩⟩
noncomputable def MG : FE Try.prog := ⟨66, ⟨Try.f66.body.getD .skip, 12, [.tmp 2], some (rle true [1, 1, 1, 9])⟩, ⟨⟨Try.f66, Try.func66, rfl, rfl, rfl⟩, Try.call66⟩⟩
noncomputable def xM : FE Try.prog := ⟨104, ⟨Try.f104.body.getD .skip, 95, [.tmp 6], some (rle true [3, 3, 4, 6, 1, 5, 1, 8, 1, 36, 1, 26])⟩, ⟨⟨Try.f104, Try.func104, rfl, rfl, rfl⟩, Try.call104⟩⟩
noncomputable def J8 : FE Try.prog := ⟨108, ⟨Try.f108.body.getD .skip, 8, [.tmp 4], some (rle true [2, 2, 1, 3])⟩, ⟨⟨Try.f108, Try.func108, rfl, rfl, rfl⟩, Try.call108⟩⟩
noncomputable def IV : rU Try.prog := ⟨112, dB, lM Try.func112 (by kernel_rfl) (by kernel_rfl) (by kernel_rfl) (by kernel_rfl)⟩
noncomputable def IU : rU Try.prog := ⟨115, (gS 128), qS (tS := 95) (tR := 4) (e := 128) (size := 1) Try.func115 (by kernel_rfl) (by kernel_rfl) (by kernel_rfl) (by kernel_rfl) Try.underlying95 (fun w => nC.ok.dO) (fun h => TypeDesc.noConfusion (Option.some.inj (Try.underlying128.symm.trans h)))⟩
noncomputable def IT : rU Try.prog := ⟨119, dB, lM Try.func119 (by kernel_rfl) (by kernel_rfl) (by kernel_rfl) (by kernel_rfl)⟩
noncomputable def eqs : List (QE Try.prog) := [⟨25, by kernel_rfl, by kernel_rfl⟩, ⟨28, by kernel_rfl, by kernel_rfl⟩, ⟨61, by kernel_rfl, by kernel_rfl⟩]
noncomputable def env : Env := { P := Try.prog, DZ := by kernel_rfl, types := (.node 47 (.node 27 (.node 22 (.node 4 (.node 3 (.leaf ty2) (.leaf ty3)) (.node 5 (.leaf ty4) (.leaf ty5))) (.node 25 (.node 24 (.leaf XN) (.leaf OM)) (.node 26 (.leaf GG) (.leaf OL)))) (.node 31 (.node 29 (.node 28 (.leaf OK) (.leaf OJ)) (.node 30 (.leaf zX) (.leaf OI))) (.node 44 (.node 43 (.leaf fA) (.leaf OH)) (.node 45 (.leaf OG) (.node 46 (.leaf XJ) (.leaf XI)))))) (.node 95 (.node 58 (.node 56 (.node 48 (.leaf OF) (.leaf OE)) (.node 57 (.leaf OD) (.leaf SP))) (.node 60 (.node 59 (.leaf XB) (.leaf XA)) (.node 61 (.leaf X9) (.leaf X8)))) (.node 99 (.node 97 (.node 96 (.leaf OC) (.leaf OB)) (.node 98 (.leaf OA) (.leaf O0))) (.node 104 (.node 100 (.leaf NZ) (.leaf GH)) (.node 128 (.leaf T4) (.node 161 (.leaf nC) (.leaf SR))))))), funcs := (.node 104 (.node 66 (.leaf MI) (.leaf MG)) (.node 108 (.leaf xM) (.leaf J8))), uU := [IV, IU, IT], eqs := eqs }
theorem HK (f : Nat) (h : (env.uU.all fun x => !(x.f.beq f)) = true) : ∀ args : List aA, iC env (aX env) f args = bO env (aX env) f args := fun _ => CV f h
theorem NB (f : Nat) (h : (env.qK.all fun x => !(x.fn.beq f)) = true) : ∀ k, nV env.qK f k = true := I1 f h
abbrev FI (k : Nat) (f : FE Try.prog) : Prop := (env.funcs.find k).i = f.i
abbrev FF (k : Nat) : Prop := (env.funcs.find k).f.beq k = true
theorem ti2 : ti env 2 = M.pure ⟨Go.TypeDesc.int (Go.IntKind.i64), 1, 8, .int .i64 (0)⟩ := rfl
theorem ti3 : ti env 3 = M.pure ⟨Go.TypeDesc.int (Go.IntKind.i64), 1, 8, .int .i64 (0)⟩ := rfl
theorem ti4 : ti env 4 = M.pure ⟨Go.TypeDesc.bool, 1, 1, .bool false⟩ := rfl
theorem ti5 : ti env 5 = M.pure ⟨Go.TypeDesc.int (Go.IntKind.u8), 1, 1, .int .u8 (0)⟩ := rfl
theorem YC : ti env 22 = M.pure ⟨Go.TypeDesc.pointer 59, 1, 8, .fC⟩ := rfl
theorem OW : ti env 24 = M.pure ⟨Go.TypeDesc.array 32 5, 32, 32, .agg [.int .u8 (0), .int .u8 (0), .int .u8 (0), .int .u8 (0), .int .u8 (0), .int .u8 (0), .int .u8 (0), .int .u8 (0), .int .u8 (0), .int .u8 (0), .int .u8 (0), .int .u8 (0), .int .u8 (0), .int .u8 (0), .int .u8 (0), .int .u8 (0), .int .u8 (0), .int .u8 (0), .int .u8 (0), .int .u8 (0), .int .u8 (0), .int .u8 (0), .int .u8 (0), .int .u8 (0), .int .u8 (0), .int .u8 (0), .int .u8 (0), .int .u8 (0), .int .u8 (0), .int .u8 (0), .int .u8 (0), .int .u8 (0)]⟩ := rfl
theorem nH : ti env 25 = M.pure ⟨Go.TypeDesc.array 32 5, 32, 32, .agg [.int .u8 (0), .int .u8 (0), .int .u8 (0), .int .u8 (0), .int .u8 (0), .int .u8 (0), .int .u8 (0), .int .u8 (0), .int .u8 (0), .int .u8 (0), .int .u8 (0), .int .u8 (0), .int .u8 (0), .int .u8 (0), .int .u8 (0), .int .u8 (0), .int .u8 (0), .int .u8 (0), .int .u8 (0), .int .u8 (0), .int .u8 (0), .int .u8 (0), .int .u8 (0), .int .u8 (0), .int .u8 (0), .int .u8 (0), .int .u8 (0), .int .u8 (0), .int .u8 (0), .int .u8 (0), .int .u8 (0), .int .u8 (0)]⟩ := rfl
theorem pU : ti env 26 = M.pure ⟨Go.TypeDesc.int (Go.IntKind.u32), 1, 4, .int .u32 (0)⟩ := rfl
theorem OV : ti env 27 = M.pure ⟨Go.TypeDesc.struct #[⟨"Tx", 25, 0, false, "", "", 0⟩, ⟨"N", 26, 32, false, "", "", 32⟩], 33, 36, .agg [.int .u8 (0), .int .u8 (0), .int .u8 (0), .int .u8 (0), .int .u8 (0), .int .u8 (0), .int .u8 (0), .int .u8 (0), .int .u8 (0), .int .u8 (0), .int .u8 (0), .int .u8 (0), .int .u8 (0), .int .u8 (0), .int .u8 (0), .int .u8 (0), .int .u8 (0), .int .u8 (0), .int .u8 (0), .int .u8 (0), .int .u8 (0), .int .u8 (0), .int .u8 (0), .int .u8 (0), .int .u8 (0), .int .u8 (0), .int .u8 (0), .int .u8 (0), .int .u8 (0), .int .u8 (0), .int .u8 (0), .int .u8 (0), .int .u32 (0)]⟩ := rfl
theorem gQ : ti env 28 = M.pure ⟨Go.TypeDesc.struct #[⟨"Tx", 25, 0, false, "", "", 0⟩, ⟨"N", 26, 32, false, "", "", 32⟩], 33, 36, .agg [.int .u8 (0), .int .u8 (0), .int .u8 (0), .int .u8 (0), .int .u8 (0), .int .u8 (0), .int .u8 (0), .int .u8 (0), .int .u8 (0), .int .u8 (0), .int .u8 (0), .int .u8 (0), .int .u8 (0), .int .u8 (0), .int .u8 (0), .int .u8 (0), .int .u8 (0), .int .u8 (0), .int .u8 (0), .int .u8 (0), .int .u8 (0), .int .u8 (0), .int .u8 (0), .int .u8 (0), .int .u8 (0), .int .u8 (0), .int .u8 (0), .int .u8 (0), .int .u8 (0), .int .u8 (0), .int .u8 (0), .int .u8 (0), .int .u32 (0)]⟩ := rfl
theorem jJ : ti env 29 = M.pure ⟨Go.TypeDesc.slice 5, 1, 24, .aT⟩ := rfl
theorem OU : ti env 30 = M.pure ⟨Go.TypeDesc.struct #[⟨"Point", 28, 0, false, "", "", 0⟩, ⟨"Made", 3, 33, false, "", "", 40⟩, ⟨"Value", 2, 34, false, "", "", 48⟩, ⟨"Script", 29, 35, false, "", "", 56⟩, ⟨"Base", 4, 36, false, "", "", 80⟩, ⟨"Spent", 3, 37, false, "", "", 88⟩, ⟨"Spender", 25, 38, false, "", "", 96⟩], 70, 128, .agg [.int .u8 (0), .int .u8 (0), .int .u8 (0), .int .u8 (0), .int .u8 (0), .int .u8 (0), .int .u8 (0), .int .u8 (0), .int .u8 (0), .int .u8 (0), .int .u8 (0), .int .u8 (0), .int .u8 (0), .int .u8 (0), .int .u8 (0), .int .u8 (0), .int .u8 (0), .int .u8 (0), .int .u8 (0), .int .u8 (0), .int .u8 (0), .int .u8 (0), .int .u8 (0), .int .u8 (0), .int .u8 (0), .int .u8 (0), .int .u8 (0), .int .u8 (0), .int .u8 (0), .int .u8 (0), .int .u8 (0), .int .u8 (0), .int .u32 (0), .int .i64 (0), .int .i64 (0), .aT, .bool false, .int .i64 (0), .int .u8 (0), .int .u8 (0), .int .u8 (0), .int .u8 (0), .int .u8 (0), .int .u8 (0), .int .u8 (0), .int .u8 (0), .int .u8 (0), .int .u8 (0), .int .u8 (0), .int .u8 (0), .int .u8 (0), .int .u8 (0), .int .u8 (0), .int .u8 (0), .int .u8 (0), .int .u8 (0), .int .u8 (0), .int .u8 (0), .int .u8 (0), .int .u8 (0), .int .u8 (0), .int .u8 (0), .int .u8 (0), .int .u8 (0), .int .u8 (0), .int .u8 (0), .int .u8 (0), .int .u8 (0), .int .u8 (0), .int .u8 (0)]⟩ := rfl
theorem dZ : ti env 31 = M.pure ⟨Go.TypeDesc.struct #[⟨"Point", 28, 0, false, "", "", 0⟩, ⟨"Made", 3, 33, false, "", "", 40⟩, ⟨"Value", 2, 34, false, "", "", 48⟩, ⟨"Script", 29, 35, false, "", "", 56⟩, ⟨"Base", 4, 36, false, "", "", 80⟩, ⟨"Spent", 3, 37, false, "", "", 88⟩, ⟨"Spender", 25, 38, false, "", "", 96⟩], 70, 128, .agg [.int .u8 (0), .int .u8 (0), .int .u8 (0), .int .u8 (0), .int .u8 (0), .int .u8 (0), .int .u8 (0), .int .u8 (0), .int .u8 (0), .int .u8 (0), .int .u8 (0), .int .u8 (0), .int .u8 (0), .int .u8 (0), .int .u8 (0), .int .u8 (0), .int .u8 (0), .int .u8 (0), .int .u8 (0), .int .u8 (0), .int .u8 (0), .int .u8 (0), .int .u8 (0), .int .u8 (0), .int .u8 (0), .int .u8 (0), .int .u8 (0), .int .u8 (0), .int .u8 (0), .int .u8 (0), .int .u8 (0), .int .u8 (0), .int .u32 (0), .int .i64 (0), .int .i64 (0), .aT, .bool false, .int .i64 (0), .int .u8 (0), .int .u8 (0), .int .u8 (0), .int .u8 (0), .int .u8 (0), .int .u8 (0), .int .u8 (0), .int .u8 (0), .int .u8 (0), .int .u8 (0), .int .u8 (0), .int .u8 (0), .int .u8 (0), .int .u8 (0), .int .u8 (0), .int .u8 (0), .int .u8 (0), .int .u8 (0), .int .u8 (0), .int .u8 (0), .int .u8 (0), .int .u8 (0), .int .u8 (0), .int .u8 (0), .int .u8 (0), .int .u8 (0), .int .u8 (0), .int .u8 (0), .int .u8 (0), .int .u8 (0), .int .u8 (0), .int .u8 (0)]⟩ := rfl
theorem fZ : ti env 43 = M.pure ⟨Go.TypeDesc.slice 31, 1, 24, .aT⟩ := rfl
theorem OT : ti env 44 = M.pure ⟨Go.TypeDesc.slice 48, 1, 24, .aT⟩ := rfl
theorem Y8 : ti env 45 = M.pure ⟨Go.TypeDesc.struct #[⟨"Height", 3, 0, false, "", "", 0⟩, ⟨"Block", 25, 1, false, "", "", 8⟩, ⟨"Made", 43, 33, false, "", "", 40⟩, ⟨"Spends", 44, 34, false, "", "", 64⟩, ⟨"Burnt", 2, 35, false, "", "", 88⟩, ⟨"Left", 2, 36, false, "", "", 96⟩], 37, 104, .agg [.int .i64 (0), .int .u8 (0), .int .u8 (0), .int .u8 (0), .int .u8 (0), .int .u8 (0), .int .u8 (0), .int .u8 (0), .int .u8 (0), .int .u8 (0), .int .u8 (0), .int .u8 (0), .int .u8 (0), .int .u8 (0), .int .u8 (0), .int .u8 (0), .int .u8 (0), .int .u8 (0), .int .u8 (0), .int .u8 (0), .int .u8 (0), .int .u8 (0), .int .u8 (0), .int .u8 (0), .int .u8 (0), .int .u8 (0), .int .u8 (0), .int .u8 (0), .int .u8 (0), .int .u8 (0), .int .u8 (0), .int .u8 (0), .int .u8 (0), .aT, .aT, .int .i64 (0), .int .i64 (0)]⟩ := rfl
theorem Y7 : ti env 46 = M.pure ⟨Go.TypeDesc.struct #[⟨"Height", 3, 0, false, "", "", 0⟩, ⟨"Block", 25, 1, false, "", "", 8⟩, ⟨"Made", 43, 33, false, "", "", 40⟩, ⟨"Spends", 44, 34, false, "", "", 64⟩, ⟨"Burnt", 2, 35, false, "", "", 88⟩, ⟨"Left", 2, 36, false, "", "", 96⟩], 37, 104, .agg [.int .i64 (0), .int .u8 (0), .int .u8 (0), .int .u8 (0), .int .u8 (0), .int .u8 (0), .int .u8 (0), .int .u8 (0), .int .u8 (0), .int .u8 (0), .int .u8 (0), .int .u8 (0), .int .u8 (0), .int .u8 (0), .int .u8 (0), .int .u8 (0), .int .u8 (0), .int .u8 (0), .int .u8 (0), .int .u8 (0), .int .u8 (0), .int .u8 (0), .int .u8 (0), .int .u8 (0), .int .u8 (0), .int .u8 (0), .int .u8 (0), .int .u8 (0), .int .u8 (0), .int .u8 (0), .int .u8 (0), .int .u8 (0), .int .u8 (0), .aT, .aT, .int .i64 (0), .int .i64 (0)]⟩ := rfl
theorem OS : ti env 47 = M.pure ⟨Go.TypeDesc.struct #[⟨"Point", 28, 0, false, "", "", 0⟩, ⟨"Spender", 25, 33, false, "", "", 36⟩], 65, 68, .agg [.int .u8 (0), .int .u8 (0), .int .u8 (0), .int .u8 (0), .int .u8 (0), .int .u8 (0), .int .u8 (0), .int .u8 (0), .int .u8 (0), .int .u8 (0), .int .u8 (0), .int .u8 (0), .int .u8 (0), .int .u8 (0), .int .u8 (0), .int .u8 (0), .int .u8 (0), .int .u8 (0), .int .u8 (0), .int .u8 (0), .int .u8 (0), .int .u8 (0), .int .u8 (0), .int .u8 (0), .int .u8 (0), .int .u8 (0), .int .u8 (0), .int .u8 (0), .int .u8 (0), .int .u8 (0), .int .u8 (0), .int .u8 (0), .int .u32 (0), .int .u8 (0), .int .u8 (0), .int .u8 (0), .int .u8 (0), .int .u8 (0), .int .u8 (0), .int .u8 (0), .int .u8 (0), .int .u8 (0), .int .u8 (0), .int .u8 (0), .int .u8 (0), .int .u8 (0), .int .u8 (0), .int .u8 (0), .int .u8 (0), .int .u8 (0), .int .u8 (0), .int .u8 (0), .int .u8 (0), .int .u8 (0), .int .u8 (0), .int .u8 (0), .int .u8 (0), .int .u8 (0), .int .u8 (0), .int .u8 (0), .int .u8 (0), .int .u8 (0), .int .u8 (0), .int .u8 (0), .int .u8 (0)]⟩ := rfl
theorem OR : ti env 48 = M.pure ⟨Go.TypeDesc.struct #[⟨"Point", 28, 0, false, "", "", 0⟩, ⟨"Spender", 25, 33, false, "", "", 36⟩], 65, 68, .agg [.int .u8 (0), .int .u8 (0), .int .u8 (0), .int .u8 (0), .int .u8 (0), .int .u8 (0), .int .u8 (0), .int .u8 (0), .int .u8 (0), .int .u8 (0), .int .u8 (0), .int .u8 (0), .int .u8 (0), .int .u8 (0), .int .u8 (0), .int .u8 (0), .int .u8 (0), .int .u8 (0), .int .u8 (0), .int .u8 (0), .int .u8 (0), .int .u8 (0), .int .u8 (0), .int .u8 (0), .int .u8 (0), .int .u8 (0), .int .u8 (0), .int .u8 (0), .int .u8 (0), .int .u8 (0), .int .u8 (0), .int .u8 (0), .int .u32 (0), .int .u8 (0), .int .u8 (0), .int .u8 (0), .int .u8 (0), .int .u8 (0), .int .u8 (0), .int .u8 (0), .int .u8 (0), .int .u8 (0), .int .u8 (0), .int .u8 (0), .int .u8 (0), .int .u8 (0), .int .u8 (0), .int .u8 (0), .int .u8 (0), .int .u8 (0), .int .u8 (0), .int .u8 (0), .int .u8 (0), .int .u8 (0), .int .u8 (0), .int .u8 (0), .int .u8 (0), .int .u8 (0), .int .u8 (0), .int .u8 (0), .int .u8 (0), .int .u8 (0), .int .u8 (0), .int .u8 (0), .int .u8 (0)]⟩ := rfl
theorem EO : ti env 56 = M.pure ⟨Go.TypeDesc.pointer 100, 1, 8, .fC⟩ := rfl
theorem T6 : ti env 57 = M.pure ⟨Go.TypeDesc.slice 61, 1, 24, .aT⟩ := rfl
theorem Y0 : ti env 58 = M.pure ⟨Go.TypeDesc.struct #[⟨"x", 56, 0, false, "", "purser/store", 0⟩, ⟨"levels", 57, 1, false, "", "purser/store", 8⟩], 2, 32, .agg [.fC, .aT]⟩ := rfl
theorem XZ : ti env 59 = M.pure ⟨Go.TypeDesc.struct #[⟨"x", 56, 0, false, "", "purser/store", 0⟩, ⟨"levels", 57, 1, false, "", "purser/store", 8⟩], 2, 32, .agg [.fC, .aT]⟩ := rfl
theorem XY : ti env 60 = M.pure ⟨Go.TypeDesc.struct #[⟨"Height", 3, 0, false, "", "", 0⟩, ⟨"Block", 25, 1, false, "", "", 8⟩, ⟨"Coins", 3, 33, false, "", "", 40⟩, ⟨"Total", 2, 34, false, "", "", 48⟩, ⟨"Burnt", 2, 35, false, "", "", 56⟩, ⟨"Left", 2, 36, false, "", "", 64⟩], 37, 72, .agg [.int .i64 (0), .int .u8 (0), .int .u8 (0), .int .u8 (0), .int .u8 (0), .int .u8 (0), .int .u8 (0), .int .u8 (0), .int .u8 (0), .int .u8 (0), .int .u8 (0), .int .u8 (0), .int .u8 (0), .int .u8 (0), .int .u8 (0), .int .u8 (0), .int .u8 (0), .int .u8 (0), .int .u8 (0), .int .u8 (0), .int .u8 (0), .int .u8 (0), .int .u8 (0), .int .u8 (0), .int .u8 (0), .int .u8 (0), .int .u8 (0), .int .u8 (0), .int .u8 (0), .int .u8 (0), .int .u8 (0), .int .u8 (0), .int .u8 (0), .int .i64 (0), .int .i64 (0), .int .i64 (0), .int .i64 (0)]⟩ := rfl
theorem XX : ti env 61 = M.pure ⟨Go.TypeDesc.struct #[⟨"Height", 3, 0, false, "", "", 0⟩, ⟨"Block", 25, 1, false, "", "", 8⟩, ⟨"Coins", 3, 33, false, "", "", 40⟩, ⟨"Total", 2, 34, false, "", "", 48⟩, ⟨"Burnt", 2, 35, false, "", "", 56⟩, ⟨"Left", 2, 36, false, "", "", 64⟩], 37, 72, .agg [.int .i64 (0), .int .u8 (0), .int .u8 (0), .int .u8 (0), .int .u8 (0), .int .u8 (0), .int .u8 (0), .int .u8 (0), .int .u8 (0), .int .u8 (0), .int .u8 (0), .int .u8 (0), .int .u8 (0), .int .u8 (0), .int .u8 (0), .int .u8 (0), .int .u8 (0), .int .u8 (0), .int .u8 (0), .int .u8 (0), .int .u8 (0), .int .u8 (0), .int .u8 (0), .int .u8 (0), .int .u8 (0), .int .u8 (0), .int .u8 (0), .int .u8 (0), .int .u8 (0), .int .u8 (0), .int .u8 (0), .int .u8 (0), .int .u8 (0), .int .i64 (0), .int .i64 (0), .int .i64 (0), .int .i64 (0)]⟩ := rfl
theorem mK : ti env 95 = M.pure ⟨Go.TypeDesc.slice 128, 1, 24, .aT⟩ := rfl
theorem EN : ti env 96 = M.pure ⟨Go.TypeDesc.func #[128, 128] #[3] false, 1, 8, .dL⟩ := rfl
theorem OP : ti env 97 = M.pure ⟨Go.TypeDesc.struct #[⟨"l", 95, 0, false, "", "purser/index", 0⟩, ⟨"order", 96, 1, false, "", "purser/index", 24⟩], 2, 32, .agg [.aT, .dL]⟩ := rfl
theorem OO : ti env 98 = M.pure ⟨Go.TypeDesc.struct #[⟨"l", 95, 0, false, "", "purser/index", 0⟩, ⟨"order", 96, 1, false, "", "purser/index", 24⟩], 2, 32, .agg [.aT, .dL]⟩ := rfl
theorem ON : ti env 99 = M.pure ⟨Go.TypeDesc.struct #[⟨"made", 4, 0, false, "", "purser/index", 0⟩, ⟨"points", 98, 1, false, "", "purser/index", 8⟩, ⟨"scripts", 98, 3, false, "", "purser/index", 40⟩], 5, 72, .agg [.bool false, .aT, .dL, .aT, .dL]⟩ := rfl
theorem DP : ti env 100 = M.pure ⟨Go.TypeDesc.struct #[⟨"made", 4, 0, false, "", "purser/index", 0⟩, ⟨"points", 98, 1, false, "", "purser/index", 8⟩, ⟨"scripts", 98, 3, false, "", "purser/index", 40⟩], 5, 72, .agg [.bool false, .aT, .dL, .aT, .dL]⟩ := rfl
theorem TK : ti env 104 = M.pure ⟨Go.TypeDesc.struct #[⟨"Kind", 3, 0, false, "", "", 0⟩, ⟨"A", 46, 1, false, "", "", 8⟩, ⟨"Next", 4, 38, false, "", "", 112⟩, ⟨"N", 3, 39, false, "", "", 120⟩], 40, 128, .agg [.int .i64 (0), .int .i64 (0), .int .u8 (0), .int .u8 (0), .int .u8 (0), .int .u8 (0), .int .u8 (0), .int .u8 (0), .int .u8 (0), .int .u8 (0), .int .u8 (0), .int .u8 (0), .int .u8 (0), .int .u8 (0), .int .u8 (0), .int .u8 (0), .int .u8 (0), .int .u8 (0), .int .u8 (0), .int .u8 (0), .int .u8 (0), .int .u8 (0), .int .u8 (0), .int .u8 (0), .int .u8 (0), .int .u8 (0), .int .u8 (0), .int .u8 (0), .int .u8 (0), .int .u8 (0), .int .u8 (0), .int .u8 (0), .int .u8 (0), .int .u8 (0), .aT, .aT, .int .i64 (0), .int .i64 (0), .bool false, .int .i64 (0)]⟩ := rfl
theorem iI : ti env 128 = M.pure ⟨Go.TypeDesc.pointer 31, 1, 8, .fC⟩ := rfl
theorem T8 : ti env 161 = M.pure ⟨Go.TypeDesc.map 28 3, 1, 8, .nI⟩ := rfl
theorem UF : FI 20 MI := rfl
theorem VF : FF 20 := rfl
theorem af0 : ∀ tm : List aA, bQ env 20 tm = aN [T, F, T, F, T, F, F, F, F, F, F] tm := fun _ => rfl
theorem UE : FI 66 MG := rfl
theorem VE : FF 66 := rfl
theorem ac2 : ∀ tm : List aA, bQ env 66 tm = aN [T, F, T, F, F, F, F, F, F, F, F, F] tm := fun _ => rfl
theorem NP : FI 104 xM := rfl
theorem NQ : FF 104 := rfl
theorem VC : ∀ tm : List aA, bQ env 104 tm = aN [T, T, T, F, F, F, T, T, T, T, F, F, F, F, F, F, T, F, F, F, F, F, T, F, F, F, F, F, F, F, F, T, F, F, F, F, F, F, F, F, F, F, F, F, F, F, F, F, F, F, F, F, F, F, F, F, F, F, F, F, F, F, F, F, F, F, F, F, T, F, F, F, F, F, F, F, F, F, F, F, F, F, F, F, F, F, F, F, F, F, F, F, F, F, F] tm := fun _ => rfl
theorem UP : FI 108 J8 := rfl
theorem VQ : FF 108 := rfl
theorem V7 : ∀ tm : List aA, bQ env 108 tm = aN [T, T, F, F, T, F, F, F] tm := fun _ => rfl
theorem IY : ∀ args : List aA, iC env (aX env) 112 args = dB args := fun _ => rfl
theorem IX : ∀ args : List aA, iC env (aX env) 115 args = (gS 128) args := fun _ => rfl
theorem IW : ∀ args : List aA, iC env (aX env) 119 args = dB args := fun _ => rfl
theorem KE : ∀ ts v, cP env (24 :: ts) v = M.pure (.int .i64 32) := fun _ _ => rfl
theorem KD : ∀ ts v, cP env (25 :: ts) v = M.pure (.int .i64 32) := fun _ _ => rfl
theorem KC : ∀ ts id off len cap sz, cP env (29 :: ts) (.sl id off len cap sz) = M.pure (.int .i64 (len : Nat)) := fun _ _ _ _ _ _ => rfl
theorem KB : ∀ ts g sz off len, cP env (29 :: ts) (.isl g sz off len) = M.pure (.int .i64 (len : Nat)) := fun _ _ _ _ _ => rfl
theorem KA : ∀ ts, cP env (29 :: ts) .aT = M.pure (.int .i64 0) := fun _ => rfl
theorem K9 : ∀ ts, cP env (29 :: ts) .emp = M.pure (.int .i64 0) := fun _ => rfl
theorem K8 : ∀ ts id off len cap sz, cP env (43 :: ts) (.sl id off len cap sz) = M.pure (.int .i64 (len : Nat)) := fun _ _ _ _ _ _ => rfl
theorem K7 : ∀ ts g sz off len, cP env (43 :: ts) (.isl g sz off len) = M.pure (.int .i64 (len : Nat)) := fun _ _ _ _ _ => rfl
theorem K6 : ∀ ts, cP env (43 :: ts) .aT = M.pure (.int .i64 0) := fun _ => rfl
theorem K5 : ∀ ts, cP env (43 :: ts) .emp = M.pure (.int .i64 0) := fun _ => rfl
theorem K4 : ∀ ts id off len cap sz, cP env (44 :: ts) (.sl id off len cap sz) = M.pure (.int .i64 (len : Nat)) := fun _ _ _ _ _ _ => rfl
theorem K3 : ∀ ts g sz off len, cP env (44 :: ts) (.isl g sz off len) = M.pure (.int .i64 (len : Nat)) := fun _ _ _ _ _ => rfl
theorem K2 : ∀ ts, cP env (44 :: ts) .aT = M.pure (.int .i64 0) := fun _ => rfl
theorem K1 : ∀ ts, cP env (44 :: ts) .emp = M.pure (.int .i64 0) := fun _ => rfl
theorem WL : ∀ ts id off len cap sz, cP env (57 :: ts) (.sl id off len cap sz) = M.pure (.int .i64 (len : Nat)) := fun _ _ _ _ _ _ => rfl
theorem WK : ∀ ts g sz off len, cP env (57 :: ts) (.isl g sz off len) = M.pure (.int .i64 (len : Nat)) := fun _ _ _ _ _ => rfl
theorem WJ : ∀ ts, cP env (57 :: ts) .aT = M.pure (.int .i64 0) := fun _ => rfl
theorem WI : ∀ ts, cP env (57 :: ts) .emp = M.pure (.int .i64 0) := fun _ => rfl
theorem K0 : ∀ ts id off len cap sz, cP env (95 :: ts) (.sl id off len cap sz) = M.pure (.int .i64 (len : Nat)) := fun _ _ _ _ _ _ => rfl
theorem JZ : ∀ ts g sz off len, cP env (95 :: ts) (.isl g sz off len) = M.pure (.int .i64 (len : Nat)) := fun _ _ _ _ _ => rfl
theorem JY : ∀ ts, cP env (95 :: ts) .aT = M.pure (.int .i64 0) := fun _ => rfl
theorem JX : ∀ ts, cP env (95 :: ts) .emp = M.pure (.int .i64 0) := fun _ => rfl
def tyr := (And.intro ti2 (And.intro ti3 (And.intro ti4 (And.intro ti5 (And.intro YC (And.intro OW (And.intro nH (And.intro pU (And.intro OV (And.intro gQ (And.intro jJ (And.intro OU (And.intro dZ (And.intro fZ (And.intro OT (And.intro Y8 (And.intro Y7 (And.intro OS (And.intro OR (And.intro EO (And.intro T6 (And.intro Y0 (And.intro XZ (And.intro XY (And.intro XX (And.intro mK (And.intro EN (And.intro OP (And.intro OO (And.intro ON (And.intro DP (And.intro TK (And.intro iI T8)))))))))))))))))))))))))))))))))
def blr := (And.intro KE (And.intro KD (And.intro KC (And.intro KB (And.intro KA (And.intro K9 (And.intro K8 (And.intro K7 (And.intro K6 (And.intro K5 (And.intro K4 (And.intro K3 (And.intro K2 (And.intro K1 (And.intro WL (And.intro WK (And.intro WJ (And.intro WI (And.intro K0 (And.intro JZ (And.intro JY JX)))))))))))))))))))))
def fgr := (And.intro af0 (And.intro ac2 (And.intro VC (And.intro V7 (And.intro (NB 20 rfl) (And.intro (NB 66 rfl) (And.intro (NB 104 rfl) (NB 108 rfl))))))))
def hkr := (And.intro (HK 20 rfl) (And.intro (HK 66 rfl) (And.intro (HK 104 rfl) (And.intro (HK 108 rfl) (And.intro IY (And.intro IX IW))))))
end Go.Am.Ytlgebaofkolkoaa.Ins
set_option linter.unusedSimpArgs false
set_option linter.unusedVariables false
set_option linter.defProp false
set_option maxRecDepth 10000
namespace Go.Am.Ytlgebaofkolkoaa.Ins
open Go Go.Am Go.Proofs
def aQ (aG : List UInt8) (pn : Int) : List aA := aG.map u8 ++ [.int .u32 pn]
theorem c9 {aG : List UInt8} {pn : Int} (h : aG.length = 32) : (aQ aG pn).length = 33 := by simp [aQ, h]
theorem iV {aG : List UInt8} {pn : Int} (h : aG.length = 32) : (aQ aG pn)[32]? = some (.int .u32 pn) := by
 unfold aQ
 rw [List.getElem?_append_right (by rw [List.length_map]; omega), List.length_map, h]; rfl
theorem mG {α : Type} {f : α → M Bool} {g : α → Bool} : ∀ (l : List α), (∀ x ∈ l, f x = M.pure (g x)) → vY f l = M.pure (l.all g)
 | [], _ => rfl
 | x :: l, h => by
  simp only [vY, h x (List.mem_cons_self), aI, mG l fun y hy => h y (List.mem_cons_of_mem _ hy), List.all_cons]
theorem xB {a : List UInt8} {i : Nat} (hi : i < a.length) : part env 5 (a.map u8) i = M.pure (u8 a[i]) := by
 simp only [part, ti5, aI, eR, List.getElem?_map, List.getElem?_eq_getElem hi, Option.map_some, eE]
theorem eq5 (d : Nat) (x y : UInt8) : equal env (d + 1) 5 (u8 x) (u8 y) = M.pure (x == y) := by
 have : ((x.toNat : Int) == (y.toNat : Int)) = (x == y) := by
  by_cases e : x = y
  ·subst e; simp
  ·have h2 : ¬ ((x.toNat : Int) = (y.toNat : Int)) := fun q => e (UInt8.toNat_inj.1 (by omega))
   rw [beq_eq_false_iff_ne.2 h2, beq_eq_false_iff_ne.2 e]
 simp only [equal, u8, und, ti5, aI, decide_true]
 rw [this]
theorem MO (d : Nat) (a b : List UInt8) (ha : a.length = 32) (hb : b.length = 32) : equal env (d + 1 + 1) 25 (.agg (a.map u8)) (.agg (b.map u8)) = M.pure (decide (a = b)) := by
 have hq : zE env env.eqs 25 = true := rfl
 have h1 : equal env (d + 1 + 1) 25 (.agg (a.map u8)) (.agg (b.map u8)) = vY (fun i => (part env 5 (a.map u8) (i * 1)).bind fun x => (part env 5 (b.map u8) (i * 1)).bind fun y => equal env (d + 1) 5 x y) (List.range 32) := by
  rw [equal]
  ·simp only [und, nH, aI, hq, dV, sizeOf, ti5]
  all_goals (intro k n h; cases h)
 rw [h1, mG (g := fun i => (a.getD i 0 == b.getD i 0)) _ fun i hi => ?_]
 ·congr 1
  rw [Bool.eq_iff_iff, List.all_eq_true, decide_eq_true_iff]
  constructor
  ·intro h
   apply List.ext_getElem (by omega)
   intro i h1 h2
   have := h i (List.mem_range.2 (by omega))
   rw [List.getD_eq_getElem?_getD, List.getD_eq_getElem?_getD, List.getElem?_eq_getElem h1, List.getElem?_eq_getElem h2] at this
   simpa using this
  ·rintro rfl i _
   simp
 ·have hi := List.mem_range.1 hi
  rw [Nat.mul_one, xB (by omega), aI, xB (by omega), aI, eq5]
  rw [List.getD_eq_getElem?_getD, List.getD_eq_getElem?_getD, List.getElem?_eq_getElem (by omega), List.getElem?_eq_getElem (by omega)]
  rfl
theorem RY (d : Nat) (h1 h2 : List UInt8) (n1 n2 : Int) (l1 : h1.length = 32) (l2 : h2.length = 32) : equal env (d + 1 + 1 + 1) 28 (.agg (aQ h1 n1)) (.agg (aQ h2 n2)) = M.pure (decide (h1 = h2) && (n1 == n2)) := by
 have hq : zE env env.eqs 28 = true := rfl
 have p0 : ∀ (hh : List UInt8) (nn : Int), hh.length = 32 → part env 25 (aQ hh nn) 0 = M.pure (.agg (hh.map u8)) := fun hh nn hl => by
  simp only [part, nH, aI, eR, List.drop_zero]
  rw [show (aQ hh nn).take 32 = hh.map u8 by unfold aQ; rw [List.take_append_of_le_length (by simp [hl]), List.take_of_length_le (by simp [hl])]]
 have p1 : ∀ (hh : List UInt8) (nn : Int), hh.length = 32 → part env 26 (aQ hh nn) 32 = M.pure (.int .u32 nn) := fun hh nn hl => by
  simp only [part, pU, aI, eR, iV hl, eE]
 have p2 : equal env (d + 1 + 1) 26 (.int .u32 n1) (.int .u32 n2) = M.pure (n1 == n2) := by
  simp only [equal, und, pU, aI, decide_true]
 rw [equal]
 ·simp only [und, gQ, aI, hq, dV]
  simp only [vY, show decide ("Tx" = "_") = false from rfl, show decide ("N" = "_") = false from rfl, p0 h1 n1 l1, p0 h2 n2 l2, p1 h1 n1 l1, p1 h2 n2 l2, aI, MO d h1 h2 l1 l2, p2, Bool.and_true]
 all_goals (intro k n h; cases h)
abbrev Pt := List UInt8 × Int
def ptA (p : Pt) : aA := .agg (aQ p.1 p.2)
theorem NY {a b : UInt8} (h : u8 a = u8 b) : a = b := by
 unfold u8 at h
 injection h with h1 h2
 exact UInt8.toNat_inj.1 (by omega)
theorem uQ : ∀ {a b : List UInt8}, a.map u8 = b.map u8 → a = b
 | [], [], _ => rfl
 | [], _ :: _, h => by cases h
 | _ :: _, [], h => by cases h
 | x :: a, y :: b, h => by
  simp only [List.map_cons, List.cons.injEq] at h
  rw [NY h.1, uQ h.2]
theorem DU {p q : Pt} (h : ptA p = ptA q) : p = q := by
 unfold ptA aQ at h
 injection h with h
 obtain ⟨h1, h2⟩ := List.append_inj' h rfl
 injection h2 with h2
 injection h2 with _ h2
 exact Prod.ext (uQ h1) h2
noncomputable def isK (k a : aA) : Bool := @decide (a = k) (Classical.propDecidable _)
theorem tQ {k a : aA} : isK k a = true ↔ a = k := by unfold isK; exact @decide_eq_true_iff _ (Classical.propDecidable _)
theorem IP {k a : aA} (h : a ≠ k) : isK k a = false := by
 cases e : isK k a with
 | false => rfl
 | true => exact absurd (tQ.1 e) h
theorem E9 (p q : Pt) (l1 : p.1.length = 32) (l2 : q.1.length = 32) : bF env 28 (ptA p) (ptA q) = M.pure (isK (ptA p) (ptA q)) := by
 have e : bF env 28 (ptA p) (ptA q) = M.pure (decide (p.1 = q.1) && (p.2 == q.2)) := RY 97 p.1 q.1 p.2 q.2 l1 l2
 rw [e]
 congr 1
 by_cases c : p = q
 ·subst c
  rw [tQ.2 rfl]; simp
 ·rw [IP fun w => c (DU w).symm]
  by_cases d : p.1 = q.1
  ·rw [decide_eq_true d, Bool.true_and, beq_eq_false_iff_ne]
   exact fun w => c (Prod.ext d w)
  ·rw [decide_eq_false d]; rfl
theorem A6 : ∀ l : List aA, (∀ a ∈ l, pK a a = true) → vZ l l = true
 | [], _ => rfl
 | a :: l, h => by
  simp only [vZ, h a (List.mem_cons_self ..), A6 l fun x hx => h x (List.mem_cons_of_mem _ hx), Bool.and_self]
theorem LC (p : Pt) : lN (ptA p) (ptA p) = true := by
 refine A6 _ fun a ha => ?_
 unfold aQ at ha
 rcases List.mem_append.1 ha with h | h
 ·obtain ⟨b, _, rfl⟩ := List.mem_map.1 h
  simp [u8, pK]
 ·rw [List.mem_singleton] at h
  subst h
  simp [pK]
theorem U1 (d : Nat) (x : UInt8) : lA env (d + 1) 5 (u8 x) = M.pure () := by
 simp only [lA, und, ti5, aI]
theorem y0 {α : Type} {f : α → M Unit} : ∀ (l : List α), (∀ x ∈ l, f x = M.pure ()) → G9 f l = M.pure ()
 | [], _ => rfl
 | x :: l, h => by simp only [G9, h x (List.mem_cons_self ..), aI, y0 l fun y hy => h y (List.mem_cons_of_mem _ hy)]
theorem PY (d : Nat) (a : List UInt8) (ha : a.length = 32) : lA env (d + 1 + 1) 25 (.agg (a.map u8)) = M.pure () := by
 rw [lA]
 simp only [und, nH, aI, dV, sizeOf, ti5]
 refine y0 _ fun i hi => ?_
 have hi := List.mem_range.1 hi
 rw [Nat.mul_one, xB (by omega), aI, U1]
theorem z4 (p : Pt) (l1 : p.1.length = 32) : lA env 100 28 (ptA p) = M.pure () := by
 have p0 : part env 25 (aQ p.1 p.2) 0 = M.pure (.agg (p.1.map u8)) := by
  simp only [part, nH, aI, eR, List.drop_zero]
  rw [show (aQ p.1 p.2).take 32 = p.1.map u8 by unfold aQ; rw [List.take_append_of_le_length (by simp [l1]), List.take_of_length_le (by simp [l1])]]
 have p1 : part env 26 (aQ p.1 p.2) 32 = M.pure (.int .u32 p.2) := by
  simp only [part, pU, aI, eR, iV l1, eE]
 have p2 : lA env (97 + 1 + 1) 26 (.int .u32 p.2) = M.pure () := by
  rw [lA]; simp only [und, pU, aI]
 unfold ptA
 show lA env (97 + 1 + 1 + 1) 28 (.agg (aQ p.1 p.2)) = M.pure ()
 rw [lA]
 simp only [und, gQ, aI, dV]
 simp only [G9, show decide ("Tx" = "_") = false from rfl, show decide ("N" = "_") = false from rfl, p0, p1, aI, PY 97 p.1 l1, p2]
theorem L6 : und env 161 = M.pure (.map 28 3) := rfl
theorem z3o : cF env 3 = M.pure (.int .i64 0) := rfl
end Go.Am.Ytlgebaofkolkoaa.Ins
set_option linter.unusedSimpArgs false
set_option linter.unusedVariables false
set_option linter.defProp false
set_option maxRecDepth 10000
namespace Go.Am.Ytlgebaofkolkoaa.Ins
open Go Go.Am Go.Proofs
theorem GP {a b : aA} (h : pK a b = true) : a = b := by
 unfold pK at h
 split at h
 ·simp only [Bool.and_eq_true, decide_eq_true_eq, beq_iff_eq] at h
  rw [h.1, h.2]
 ·rw [beq_iff_eq] at h
  rw [h]
 ·cases h
theorem EJ : ∀ {a b : List aA}, vZ a b = true → a = b
 | [], [], _ => rfl
 | [], _ :: _, h => by simp [vZ] at h
 | _ :: _, [], h => by simp [vZ] at h
 | x :: a, y :: b, h => by
  simp only [vZ, Bool.and_eq_true] at h
  rw [GP h.1, EJ h.2]
def LJ (l : List aA) : Option Pt := match l[32]? with
 | some v => match v with
  | .int .u32 z => match vZ (aQ ((l.take 32).map j4) z) l && (((l.take 32).map j4).length).beq 32 with
   | true => some ((l.take 32).map j4, z)
   | false => none
  | _ => none
 | none => none
theorem xA {l : List aA} {p : Pt} (h : LJ l = some p) : l = aQ p.1 p.2 ∧ p.1.length = 32 := by
 unfold LJ at h
 split at h
 ·split at h
  ·split at h
   ·rename_i e
    rw [Bool.and_eq_true] at e
    injection h with h
    subst h
    exact ⟨(EJ e.1).symm, Nat.eq_of_beq_eq_true e.2⟩
   ·cases h
  ·cases h
 ·cases h
def JG (e : Ent) : Option (Pt × Int) := match e.1 with
 | .agg l => match LJ l with
  | some p => match e.2.1 with
   | .int .i64 z => some (p, z)
   | _ => none
  | none => none
 | _ => none
def cv (x : Pt × Int) : aA × aA := (ptA x.1, .int .i64 x.2)
theorem D9 {e : Ent} {x : Pt × Int} (h : JG e = some x) : e.1 = ptA x.1 ∧ e.2.1 = .int .i64 x.2 ∧ x.1.1.length = 32 := by
 unfold JG at h
 split at h
 ·rename_i l e1
  split at h
  ·rename_i p hp
   split at h
   ·rename_i z e2
    injection h with h
    subst h
    obtain ⟨q1, q2⟩ := xA hp
    exact ⟨by rw [e1, q1]; rfl, e2, q2⟩
   ·cases h
  ·cases h
 ·cases h
def tU (b : Nat) : List Ent → Option (List (Pt × Int))
 | [] => some []
 | e :: es => match JG e with
  | some x => match e.2.2.beq b with
   | true => match tU (b + 1) es with
    | some l => some (x :: l)
    | none => none
   | false => none
  | none => none
theorem rO : ∀ {es : List Ent} {b : Nat} {l : List (Pt × Int)}, tU b es = some l → es = j6 b (l.map cv) ∧ ∀ x ∈ l, x.1.1.length = 32
 | [], b, l, h => by injection h with h; subst h; exact ⟨rfl, fun x hx => by cases hx⟩
 | e :: es, b, l, h => by
  unfold tU at h
  split at h
  ·rename_i x hx
   split at h
   ·rename_i hb
    split at h
    ·rename_i l2 hl
     injection h with h
     subst h
     obtain ⟨q1, q2⟩ := rO hl
     obtain ⟨a1, a2, a3⟩ := D9 hx
     refine ⟨?_, fun y hy => ?_⟩
     ·simp only [List.map_cons, j6, ← q1]
      congr 1
      exact Prod.ext a1 (Prod.ext a2 (Nat.eq_of_beq_eq_true hb))
     ·rcases List.mem_cons.1 hy with rfl | hy
      ·exact a3
      ·exact q2 y hy
    ·cases h
   ·cases h
  ·cases h
def sV (p : Pt) : List (Pt × Int) → Nat → Option (Nat × Int)
 | [], _ => none
 | x :: l, i => if x.1 = p then some (i, x.2) else sV p l (i + 1)
theorem xJ {p : Pt} : ∀ (l : List (Pt × Int)) (i : Nat), hB (isK (ptA p)) (l.map cv) i = (sV p l i).map fun x => (x.1, aA.int .i64 x.2)
 | [], _ => rfl
 | x :: l, i => by
  by_cases c : x.1 = p
  ·simp only [List.map_cons, cv, hB, c, tQ.2 rfl, if_pos, sV, Option.map_some]
  ·simp only [List.map_cons, cv, hB, IP fun w => c (DU w), sV, if_neg c, Bool.false_eq_true, if_false]
   exact xJ l (i + 1)
theorem AT {p : Pt} : ∀ {l : List (Pt × Int)} {i j : Nat} {z : Int}, sV p l i = some (j, z) → i ≤ j ∧ j - i < l.length ∧ l[j - i]? = some (p, z)
 | [], _, _, _, h => by cases h
 | x :: l, i, j, z, h => by
  unfold sV at h
  split at h
  ·rename_i c
   injection h with h
   injection h with h1 h2
   subst h1; subst h2
   refine ⟨Nat.le_refl _, by simp, ?_⟩
   rw [Nat.sub_self, ← c]; rfl
  ·obtain ⟨h1, h2, h3⟩ := AT h
   refine ⟨by omega, by simp only [List.length_cons]; omega, ?_⟩
   rw [show j - i = (j - (i + 1)) + 1 by omega, List.getElem?_cons_succ]
   exact h3
def bump (p : Pt) (l : List (Pt × Int)) : List (Pt × Int) := match sV p l 0 with
 | some x => l.modify x.1 fun y => (y.1, IntKind.i64.wrap (x.2 + 1))
 | none => l ++ [(p, 1)]
def JU (bx bm : Blk) : Option (Pt × Nat × List (Pt × Int)) := match bx with
 | .row c _ => match c with
  | .l cells => match LJ (cells.take 33) with
   | some p => match bm with
    | .map es ck => match tU (ck - es.length) es with
     | some l => match es.length.ble ck with
      | true => some (p, ck - es.length, l)
      | false => none
     | none => none
    | _ => none
   | none => none
  | _ => none
 | _ => none
def AO (tm : List aA) : List Nat → List aA
 | [] => tm
 | t :: l => AO (put tm t .aB) l
def tX (m c : Nat) (ts : List Nat) (tm : List aA) : M (gH × List aA) :=
 match nth tm m undef with
 | .map id => match nth tm c undef with
  | .ptr x off => match off.beq 0 && ts.all (fun t => t.blt tm.length) with
   | true => (fX x).bind fun bx => (fX id).bind fun bm => match JU bx bm with
     | some r => (jK id (.map (j6 r.2.1 ((bump r.1 r.2.2).map cv)) (r.2.1 + (bump r.1 r.2.2).length))).bind fun _ => M.pure (.normal, AO tm ts)
     | none => bJ "bump"
   | false => bJ "bump"
  | _ => bJ "bump"
 | _ => bJ "bump"
theorem DE {bx bm : Blk} {r : Pt × Nat × List (Pt × Int)} (h : JU bx bm = some r) : ∃ cells t, bx = .row (.l cells) t ∧ cells.take 33 = aQ r.1.1 r.1.2 ∧ r.1.1.length = 32 ∧ bm = .map (j6 r.2.1 (r.2.2.map cv)) (r.2.1 + r.2.2.length) ∧ ∀ x ∈ r.2.2, x.1.1.length = 32 := by
 unfold JU at h
 split at h
 ·split at h
  ·split at h
   ·rename_i p hp
    split at h
    ·rename_i es ck
     split at h
     ·rename_i l hl
      split at h
      ·rename_i hle
       injection h with h
       subst h
       obtain ⟨q1, q2⟩ := xA hp
       obtain ⟨a1, a2⟩ := rO hl
       have hle := Nat.le_of_ble_eq_true hle
       refine ⟨_, _, rfl, q1, q2, ?_, a2⟩
       have e1 : es.length = l.length := by rw [a1, B7, List.length_map]
       rw [← a1]
       congr 1
       show ck = ck - es.length + l.length
       omega
      ·cases h
     ·cases h
    ·cases h
   ·cases h
  ·cases h
 ·cases h
end Go.Am.Ytlgebaofkolkoaa.Ins
set_option linter.unusedSimpArgs false
set_option linter.unusedVariables false
set_option linter.defProp false
set_option maxRecDepth 10000
namespace Go.Am.Ytlgebaofkolkoaa.Ins
open Go Go.Am Go.Proofs
def dat (i : Nat) : Edge := ⟨i, .data⟩
def pha (i : Nat) : Edge := ⟨i, .phase⟩
def DF (b m c ty : Nat) (pos : String) : Array Oper := #[
 { dst := some b, op := .move (.tmp m), type := 161, pos := pos, after := #[], guard := none },
 { dst := some (b + 1), op := .fieldAddr ty (.tmp c) 0, type := 0, pos := pos, after := #[], guard := none },
 { dst := some (b + 2), op := .load 28 (.tmp (b + 1)), type := 28, pos := pos, after := #[dat 1], guard := none },
 { dst := some (b + 3), op := .lookup 161 (.tmp b) (.tmp (b + 2)) false, type := 3, pos := pos, after := #[dat 0, dat 2], guard := none },
 { dst := some (b + 4), op := .binOp .add 3 (.tmp (b + 3)) (.const (.int .i64 1)) 3, type := 3, pos := pos, after := #[dat 3], guard := none },
 { dst := some (b + 5), op := .mapEntry 161 (.tmp b) (.tmp (b + 2)), type := 0, pos := pos, after := #[dat 0, dat 2, pha 0, pha 1, pha 2, ⟨3, .textOnly .mapOpAssignEntry⟩, ⟨4, .textOnly .mapOpAssignEntry⟩], guard := none },
 { dst := some (b + 6), op := .extract (.tmp (b + 5)) 1, type := 3, pos := pos, after := #[dat 5], guard := none },
 { dst := none, op := .entryStore 161 (.tmp b) (.tmp (b + 6)) (.tmp (b + 4)), type := 0, pos := pos, after := #[dat 0, dat 6, dat 4, ⟨5, .chain⟩, pha 0, pha 1, pha 2, pha 3, pha 4, pha 5, pha 6], guard := none }]
def lF : Nat → List Nat
 | 2 => [1] | 3 => [0, 2] | 4 => [3] | 5 => [0, 1, 2] | 6 => [5] | 7 => [0, 1, 2, 3, 4, 5, 6] | _ => []
theorem MQ {b m c ty : Nat} {pos : String} {i : Nat} {o : Oper} (hi : (DF b m c ty pos)[i]? = some o) {S : Nat → Prop} (h : ∀ e ∈ o.after, Region.binds .any e = true → S e.on) : ∀ k ∈ lF i, S k := by
 have hlt : i < 8 := by
  have := (Array.getElem?_eq_some_iff.1 hi).1
  exact this
 have hb1 : ∀ k, Region.binds .any (dat k) = true := fun k => rfl
 have hb2 : ∀ k, Region.binds .any (pha k) = true := fun k => rfl
 match i, hlt with
 | 0, _ => intro k hk; cases hk
 | 1, _ => intro k hk; cases hk
 | 2, _ =>
  injection hi with hi; subst hi; intro k hk
  simp only [lF, List.mem_cons, List.not_mem_nil, or_false] at hk
  subst hk
  ·exact h (dat 1) (Array.mem_def.2 (List.mem_of_getElem? (i := 0) rfl)) (hb1 _)
 | 3, _ =>
  injection hi with hi; subst hi; intro k hk
  simp only [lF, List.mem_cons, List.not_mem_nil, or_false] at hk
  rcases hk with rfl | rfl
  ·exact h (dat 0) (Array.mem_def.2 (List.mem_of_getElem? (i := 0) rfl)) (hb1 _)
  ·exact h (dat 2) (Array.mem_def.2 (List.mem_of_getElem? (i := 1) rfl)) (hb1 _)
 | 4, _ =>
  injection hi with hi; subst hi; intro k hk
  simp only [lF, List.mem_cons, List.not_mem_nil, or_false] at hk
  subst hk
  ·exact h (dat 3) (Array.mem_def.2 (List.mem_of_getElem? (i := 0) rfl)) (hb1 _)
 | 5, _ =>
  injection hi with hi; subst hi; intro k hk
  simp only [lF, List.mem_cons, List.not_mem_nil, or_false] at hk
  rcases hk with rfl | rfl | rfl
  ·exact h (pha 0) (Array.mem_def.2 (List.mem_of_getElem? (i := 2) rfl)) (hb2 _)
  ·exact h (pha 1) (Array.mem_def.2 (List.mem_of_getElem? (i := 3) rfl)) (hb2 _)
  ·exact h (pha 2) (Array.mem_def.2 (List.mem_of_getElem? (i := 4) rfl)) (hb2 _)
 | 6, _ =>
  injection hi with hi; subst hi; intro k hk
  simp only [lF, List.mem_cons, List.not_mem_nil, or_false] at hk
  subst hk
  ·exact h (dat 5) (Array.mem_def.2 (List.mem_of_getElem? (i := 0) rfl)) (hb1 _)
 | 7, _ =>
  injection hi with hi; subst hi; intro k hk
  simp only [lF, List.mem_cons, List.not_mem_nil, or_false] at hk
  rcases hk with rfl | rfl | rfl | rfl | rfl | rfl | rfl
  ·exact h (pha 0) (Array.mem_def.2 (List.mem_of_getElem? (i := 4) rfl)) (hb2 _)
  ·exact h (pha 1) (Array.mem_def.2 (List.mem_of_getElem? (i := 5) rfl)) (hb2 _)
  ·exact h (pha 2) (Array.mem_def.2 (List.mem_of_getElem? (i := 6) rfl)) (hb2 _)
  ·exact h (pha 3) (Array.mem_def.2 (List.mem_of_getElem? (i := 7) rfl)) (hb2 _)
  ·exact h (pha 4) (Array.mem_def.2 (List.mem_of_getElem? (i := 8) rfl)) (hb2 _)
  ·exact h (pha 5) (Array.mem_def.2 (List.mem_of_getElem? (i := 9) rfl)) (hb2 _)
  ·exact h (pha 6) (Array.mem_def.2 (List.mem_of_getElem? (i := 10) rfl)) (hb2 _)
structure J (b : Nat) (tm0 : List aA) (val : Nat → aA) (H0 H1 H2 : Hp) (l : Array Bool) (tm : List aA) (h : Hp) : Prop where
 sz : l.size = 8
 len : tm.length = tm0.length
 NW : ∀ k, k < 7 → l.getD k false = true → tm[b + k]? = some (val k)
 bM : ∀ x, x < b ∨ b + 7 ≤ x → tm[x]? = tm0[x]?
 dp : ∀ k, l.getD k false = true → ∀ j ∈ lF k, l.getD j false = true
 heap : h = if l.getD 7 false = true then H2 else if l.getD 5 false = true then H1 else H0
theorem J.put {b : Nat} {tm0 : List aA} {val : Nat → aA} {H0 H1 H2 : Hp} {l : Array Bool} {tm : List aA} {h : Hp} (j : J b tm0 val H0 H1 H2 l tm h) (hb : b + 7 ≤ tm0.length) {i : Nat} (hi : i < 8) (hn : l.getD i false = false) (hd : ∀ k ∈ lF i, l.getD k false = true)
  {d : Option Tmp} {v : aA} (hdst : (i < 7 ∧ d = some (b + i) ∧ v = val i) ∨ (i = 7 ∧ d = none)) {h' : Hp} (hh : h' = if (i = 7 ∨ l.getD 7 false = true) then H2 else if (i = 5 ∨ l.getD 5 false = true) then H1 else H0) :
  J b tm0 val H0 H1 H2 (l.setIfInBounds i true) (cE tm d v) h' := by
 have get : ∀ k, (l.setIfInBounds i true).getD k false = true ↔ (k = i ∨ l.getD k false = true) := fun k => by
  by_cases hk : k = i
  ·subst hk
   have : k < l.size := by rw [j.sz]; exact hi
   simp [Array.getD, this]
  ·have hk' : ¬ i = k := fun h => hk h.symm
   simp only [hk, false_or, Array.getD_eq_getD_getElem?, Array.getElem?_setIfInBounds, hk', if_false]; rw [if_neg (fun w => w)]
 refine ⟨by simpa using j.sz, by rw [oA, j.len], fun k hk hl => ?_, fun x hx => ?_, fun k hl q hq => ?_, ?_⟩
 ·rw [lC]
  rcases hdst with ⟨q1, rfl, rfl⟩ | ⟨q1, rfl⟩
  ·by_cases c : k = i
   ·subst c
    rw [if_pos rfl, if_pos (by rw [j.len]; omega)]
   ·rw [if_neg (fun w => c (by injection w with w; omega))]
    exact j.NW k hk (((get k).1 hl).resolve_left c)
  ·rw [if_neg (fun w => by cases w)]
   exact j.NW k hk (((get k).1 hl).resolve_left (by omega))
 ·rw [lC]
  rcases hdst with ⟨q1, rfl, rfl⟩ | ⟨q1, rfl⟩
  ·rw [if_neg (fun w => by injection w with w; omega)]
   exact j.bM x hx
  ·rw [if_neg (fun w => by cases w)]
   exact j.bM x hx
 ·rcases (get k).1 hl with rfl | hl
  ·exact (get q).2 (.inr (hd q hq))
  ·exact (get q).2 (.inr (j.dp k hl q hq))
 ·rw [hh]
  have e7 : ((l.setIfInBounds i true).getD 7 false = true) ↔ (i = 7 ∨ l.getD 7 false = true) := (get 7).trans (or_congr_left eq_comm)
  have e5 : ((l.setIfInBounds i true).getD 5 false = true) ↔ (i = 5 ∨ l.getD 5 false = true) := (get 5).trans (or_congr_left eq_comm)
  simp only [e7, e5]
theorem xG : ∀ (ts : List Nat) (tm : List aA), (AO tm ts).length = tm.length
 | [], _ => rfl
 | t :: ts, tm => by rw [AO, xG ts, jL]
theorem xH : ∀ (ts : List Nat) (tm : List aA) (i : Nat) (v : aA), (AO tm ts)[i]? = some v → v = .aB ∨ (i ∉ ts ∧ tm[i]? = some v)
 | [], tm, i, v, h => .inr ⟨List.not_mem_nil, h⟩
 | t :: ts, tm, i, v, h => by
  rcases xH ts _ i v h with h | ⟨h1, h2⟩
  ·exact .inl h
  ·have e := lC tm (some t) .aB i
   simp only [cE] at e
   rw [e] at h2
   by_cases c : t = i
   ·subst c
    rw [if_pos rfl] at h2
    split at h2
    ·injection h2 with h2; exact .inl h2.symm
    ·cases h2
   ·rw [if_neg (fun w => c (by injection w))] at h2
    exact .inr ⟨fun w => (List.mem_cons.1 w).elim (fun w => c w.symm) h1, h2⟩
theorem IQ {ρ : Ren} {m : Mem} {tm tm2 : List aA} {c : Array Value} (h : RL ρ m tm c) (hl : tm2.length = tm.length) (hg : ∀ (i : Nat) (v : aA), tm2[i]? = some v → v = aA.aB ∨ tm[i]? = some v) : RL ρ m tm2 c :=
 ⟨by rw [hl]; exact h.len, fun i v x hv hx => by
  rcases hg i v hv with rfl | hv
  ·exact .aB x
  ·exact h.at_ i v x hv hx⟩
theorem G0 {b mm cc ty : Nat} {pos : String} {tm0 : List aA} {H0 H1 H2 : Hp} {n mid x : Nat} {p : Pt} {z0 st : Int} (hmm : mm < b ∨ b + 7 ≤ mm) (hcc : cc < b ∨ b + 7 ≤ cc) (hlen : b + 7 ≤ tm0.length)
  (hfa : ∀ x, fieldAddr env ty (.ptr x 0) 0 = M.pure (.ptr x 0)) (hm : nth tm0 mm undef = .map mid) (hc : nth tm0 cc undef = .ptr x 0)
  (F1 : Ex (kH env 161 (.map mid) (ptA p) false) H0 n (.int .i64 z0) H0) (F2 : Ex (kH env 161 (.map mid) (ptA p) false) H1 n (.int .i64 z0) H1)
  (F3 : Ex (iP env 161 (.map mid) (ptA p)) H0 n (aA.tup [.int .i64 z0, .int .i64 st]) H1) (F4 : Ex (gT (.map mid) (.int .i64 st) (.int .i64 (IntKind.i64.wrap (z0 + 1)))) H1 n undef H2)
  (F5 : Ex (load env 28 (.ptr x 0)) H0 n (ptA p) H0)
  {val : Nat → aA} (v0 : val 0 = .map mid) (v1 : val 1 = .ptr x 0) (v2 : val 2 = ptA p) (v3 : val 3 = .int .i64 z0) (v4 : val 4 = .int .i64 (IntKind.i64.wrap (z0 + 1))) (v5 : val 5 = aA.tup [.int .i64 z0, .int .i64 st]) (v6 : val 6 = .int .i64 st) :
  ∀ listed tm h, listed.size = (DF b mm cc ty pos).size → J b tm0 val H0 H1 H2 listed tm h → ∀ i o, (DF b mm cc ty pos)[i]? = some o → listed.getD i false = false → (∀ e ∈ o.after, Region.binds .any e = true → listed.getD e.on false = true) →
   ∃ v h', Ex (opV env (aX env) (DF b mm cc ty pos).toList o tm) h n v h' ∧ J b tm0 val H0 H1 H2 (listed.setIfInBounds i true) (cE tm o.dst v) h' := by
 intro listed tm h hsz j i o hi hn hall
 have hd : ∀ k ∈ lF i, listed.getD k false = true := MQ (S := fun k => listed.getD k false = true) hi hall
 have hi8 : i < 8 := (Array.getElem?_eq_some_iff.1 hi).1
 have nv : ∀ k, k < 7 → listed.getD k false = true → nth tm (b + k) undef = val k := fun k hk hl => by rw [gJ, j.NW k hk hl]; rfl
 have nr : ∀ y, y < b ∨ b + 7 ≤ y → nth tm y undef = nth tm0 y undef := fun y hy => by rw [gJ, gJ, j.bM y hy]
 have no7 : i < 7 → listed.getD 7 false = false := fun q => by
  cases e : listed.getD 7 false with
  | false => rfl
  | true =>
   have := j.dp 7 e i (by simp only [lF, List.mem_cons, List.not_mem_nil, or_false]; omega)
   rw [hn] at this; cases this
 match i, hi8 with
 | 0, _ =>
  injection hi with hi; subst hi
  have h7 := no7 (by omega)
  refine ⟨val 0, h, ?_, j.put hlen (by omega) hn hd (.inl ⟨by omega, rfl, rfl⟩) (by have := j.heap; simpa using this)⟩
  rw [kD rfl, v0]
  show Ex (M.pure (nth tm mm undef)) _ _ _ _
  rw [nr mm hmm, hm]; exact Ex.pure
 | 1, _ =>
  injection hi with hi; subst hi
  refine ⟨val 1, h, ?_, j.put hlen (by omega) hn hd (.inl ⟨by omega, rfl, rfl⟩) (by have := j.heap; simpa using this)⟩
  rw [kD rfl, v1]
  show Ex (fieldAddr env ty (nth tm cc undef) 0) _ _ _ _
  rw [nr cc hcc, hc, hfa]; exact Ex.pure
 | 2, _ =>
  injection hi with hi; subst hi
  have h7 := no7 (by omega)
  have h5 : listed.getD 5 false = false := by
   cases e : listed.getD 5 false with
   | false => rfl
   | true => have := j.dp 5 e 2 (by simp [lF]); rw [hn] at this; cases this
  have hh : h = H0 := by have := j.heap; rw [h7, h5] at this; simpa using this
  refine ⟨val 2, h, ?_, j.put hlen (by omega) hn hd (.inl ⟨by omega, rfl, rfl⟩) (by have := j.heap; simpa using this)⟩
  rw [kD rfl, v2]
  show Ex (load env 28 (nth tm (b + 1) undef)) _ _ _ _
  rw [nv 1 (by omega) (hd 1 (by simp [lF])), v1, hh]; exact F5
 | 3, _ =>
  injection hi with hi; subst hi
  have h7 := no7 (by omega)
  have hh := j.heap
  rw [h7] at hh
  refine ⟨val 3, h, ?_, j.put hlen (by omega) hn hd (.inl ⟨by omega, rfl, rfl⟩) (by have := j.heap; simpa using this)⟩
  rw [kD rfl, v3]
  show Ex (kH env 161 (nth tm b undef) (nth tm (b + 2) undef) false) _ _ _ _
  have n0 : nth tm b undef = .map mid := by have := nv 0 (by omega) (hd 0 (by simp [lF])); rw [v0] at this; exact this
  rw [n0, nv 2 (by omega) (hd 2 (by simp [lF])), v2]
  cases e5 : listed.getD 5 false with
  | false => rw [e5] at hh; rw [show h = H0 by simpa using hh]; exact F1
  | true => rw [e5] at hh; rw [show h = H1 by simpa using hh]; exact F2
 | 4, _ =>
  injection hi with hi; subst hi
  refine ⟨val 4, h, ?_, j.put hlen (by omega) hn hd (.inl ⟨by omega, rfl, rfl⟩) (by have := j.heap; simpa using this)⟩
  rw [kD rfl, v4]
  show Ex (binOp env .add 3 (nth tm (b + 3) undef) (.int .i64 1)) _ _ _ _
  rw [nv 3 (by omega) (hd 3 (by simp [lF])), v3]; exact Ex.pure
 | 5, _ =>
  injection hi with hi; subst hi
  have h7 := no7 (by omega)
  have hh := j.heap
  rw [h7, hn] at hh
  have hh : h = H0 := by simpa using hh
  refine ⟨val 5, H1, ?_, j.put hlen (by omega) hn hd (.inl ⟨by omega, rfl, rfl⟩) (by rw [h7]; simp)⟩
  rw [kD rfl, v5]
  show Ex (iP env 161 (nth tm b undef) (nth tm (b + 2) undef)) _ _ _ _
  have n0 : nth tm b undef = .map mid := by have := nv 0 (by omega) (hd 0 (by simp [lF])); rw [v0] at this; exact this
  have l2 : listed.getD 2 false = true := hd 2 (by simp [lF])
  rw [n0, nv 2 (by omega) l2, v2, hh]; exact F3
 | 6, _ =>
  injection hi with hi; subst hi
  refine ⟨val 6, h, ?_, j.put hlen (by omega) hn hd (.inl ⟨by omega, rfl, rfl⟩) (by have := j.heap; simpa using this)⟩
  rw [kD rfl, v6]
  show Ex (extract (nth tm (b + 5) undef) 1) _ _ _ _
  rw [nv 5 (by omega) (hd 5 (by simp [lF])), v5]; exact Ex.pure
 | 7, _ =>
  injection hi with hi; subst hi
  have hh := j.heap
  rw [hn, hd 5 (by simp [lF])] at hh
  have hh : h = H1 := by simpa using hh
  refine ⟨undef, H2, ?_, j.put hlen (by omega) hn hd (.inr ⟨rfl, rfl⟩) (by simp)⟩
  rw [kD rfl]
  show Ex (gT (nth tm b undef) (nth tm (b + 6) undef) (nth tm (b + 4) undef)) _ _ _ _
  have n0 : nth tm b undef = .map mid := by have := nv 0 (by omega) (hd 0 (by simp [lF])); rw [v0] at this; exact this
  rw [n0, nv 6 (by omega) (hd 6 (by simp [lF])), nv 4 (by omega) (hd 4 (by simp [lF])), v6, v4, hh]; exact F4
theorem BI (b mm cc ty : Nat) (pos : String) (id : Nat) (rnd : Option Nat) (hmm : mm < b ∨ b + 7 ≤ mm) (hcc : cc < b ∨ b + 7 ≤ cc)
  (hfa : ∀ x, fieldAddr env ty (.ptr x 0) 0 = M.pure (.ptr x 0)) :
  rT env.P rnd (.region id (DF b mm cc ty pos) true) (tX mm cc [b, b + 1, b + 2, b + 3, b + 4, b + 5, b + 6]) := by
 intro tm e tm' s s' h ho ρ m w a o n Q hr hf ht hn hQ
 unfold tX at h
 split at h
 case h_2 => exact (aD h).elim
 rename_i mid hm
 split at h
 case h_2 => exact (aD h).elim
 rename_i x off hc
 split at h
 case h_2 => exact (aD h).elim
 rename_i hchk
 rw [Bool.and_eq_true] at hchk
 have hoff := Nat.eq_of_beq_eq_true hchk.1
 subst hoff
 have hlen : b + 7 ≤ tm.length := by
  have := List.all_eq_true.1 hchk.2 (b + 6) (by simp)
  have : b + 6 + 1 ≤ tm.length := Nat.le_of_ble_eq_true this
  omega
 obtain ⟨bx, s1, h1, h2⟩ := M.aK h
 obtain ⟨hg1, e1⟩ := eC h1
 obtain ⟨bm, s2, h3, h4⟩ := M.aK h2
 obtain ⟨hg2, e2⟩ := eC h3
 split at h4
 case h_2 => exact (aD h4).elim
 rename_i r hb1
 obtain ⟨_, s3, h5, h6⟩ := M.aK h4
 obtain ⟨he, rfl⟩ := aC h6
 injection he with q1 q2
 subst q1; subst q2
 obtain ⟨hlive, hn3, hset⟩ := nL h5
 obtain ⟨cells, t, rfl, hcells, hp32, rfl, hl32⟩ := DE hb1
 obtain ⟨p, bb, l⟩ := r
 simp only at hcells hp32 hl32 hset hg2 hlive
 rw [e1.heap] at hg2
 have hmap : iS s.heap.get mid bb (l.map cv) := by unfold iS; rw [List.length_map]; exact hg2
 have hkey : ptA p = .agg (cells.take 33) := by rw [hcells]; rfl
 have F5 : Ex (load env 28 (.ptr x 0)) s.heap.get s.next (ptA p) s.heap.get := by
  have hl : 33 ≤ cells.length := by
   have : (cells.take 33).length = 33 := by rw [hcells]; exact c9 hp32
   rw [List.length_take] at this; omega
  have := Row.agg (E := env) (n := s.next) (off := 0) (show Row s.heap.get x cells from ⟨t, hg1⟩) gQ rfl (by show 0 + 33 ≤ _; omega)
  rw [List.drop_zero] at this
  rw [hkey]
  exact .rd this
 have hpq : ∀ e ∈ l.map cv, bF env 28 (ptA p) e.1 = M.pure (isK (ptA p) e.1) := fun e he => by
  obtain ⟨y, hy, rfl⟩ := List.mem_map.1 he
  exact E9 p y.1 hp32 (hl32 y hy)
 have main : ∃ (z0 st : Int) (H1 H2 : Hp), Ex (kH env 161 (.map mid) (ptA p) false) s.heap.get s.next (.int .i64 z0) s.heap.get ∧ Ex (kH env 161 (.map mid) (ptA p) false) H1 s.next (.int .i64 z0) H1 ∧
   Ex (iP env 161 (.map mid) (ptA p)) s.heap.get s.next (aA.tup [.int .i64 z0, .int .i64 st]) H1 ∧ Ex (gT (.map mid) (.int .i64 st) (.int .i64 (IntKind.i64.wrap (z0 + 1)))) H1 s.next undef H2 ∧
   iS H2 mid bb ((bump p l).map cv) ∧ ∀ j, j ≠ mid → H2 j = s.heap.get j := by
  have hat := xJ (p := p) l 0
  have L0 := hmap.lookup (n := s.next) L6 (z4 p hp32) hpq z3o
  cases hi : sV p l 0 with
  | some y =>
   obtain ⟨i, z⟩ := y
   rw [hi] at hat
   obtain ⟨_, hlt, hget⟩ := AT hi
   rw [Nat.sub_zero] at hlt hget
   rw [hat] at L0
   have w1 := hmap.FV (n := s.next) L6 (z4 p hp32) hpq hat (fun e he => by
    rw [List.getElem?_map, hget] at he
    injection he with he
    rw [← he]; exact LC p)
   obtain ⟨H2, w2, m2, k2⟩ := hmap.store (n := s.next) (i := i) (by rw [List.length_map]; exact hlt) (v := .int .i64 (IntKind.i64.wrap (z + 1)))
   refine ⟨z, _, s.heap.get, H2, .rd L0, .rd L0, .wr w1, .wr w2, ?_, k2⟩
   have e : (l.map cv).modify i (fun e => (e.1, aA.int .i64 (IntKind.i64.wrap (z + 1)))) = (bump p l).map cv := by
    unfold bump
    rw [hi]
    refine List.ext_getElem? fun q => ?_
    rw [List.getElem?_modify, List.getElem?_map, List.getElem?_map, List.getElem?_modify]
    cases l[q]? with
    | none => rfl
    | some y =>
     simp only [Option.map_some, Option.map_eq_map]
     by_cases c : i = q
     ·simp only [if_pos c]; rfl
     ·simp only [if_neg c]
   rw [← e]; exact m2
  | none =>
   rw [hi] at hat
   rw [hat] at L0
   obtain ⟨H1, w1, m1, k1⟩ := hmap.FW (n := s.next) L6 (z4 p hp32) hpq hat z3o
   have hpq1 : ∀ e ∈ l.map cv ++ [(ptA p, aA.int .i64 0)], bF env 28 (ptA p) e.1 = M.pure (isK (ptA p) e.1) := fun e he => by
    rcases List.mem_append.1 he with he | he
    ·exact hpq e he
    ·rw [List.mem_singleton] at he
     subst he
     exact E9 p p hp32 hp32
   have L1 := m1.lookup (n := s.next) L6 (z4 p hp32) hpq1 z3o
   have hat1 : ∀ (q : List (aA × aA)) (i : Nat), hB (isK (ptA p)) q i = none → hB (isK (ptA p)) (q ++ [(ptA p, aA.int .i64 0)]) i = some (i + q.length, .int .i64 0) := fun q => by
    induction q with
    | nil => intro i _; simp only [List.nil_append, hB, tQ.2 rfl, if_pos, List.length_nil, Nat.add_zero]
    | cons y q ih =>
     intro i hq
     simp only [hB] at hq
     split at hq
     ·cases hq
     ·rename_i c
      simp only [List.cons_append, hB, if_neg c, ih (i + 1) hq, List.length_cons]
      rw [show i + 1 + q.length = i + (q.length + 1) by omega]
   rw [hat1 _ _ hat] at L1
   obtain ⟨H2, w2, m2, k2⟩ := m1.store (n := s.next) (i := (l.map cv).length) (by simp) (v := .int .i64 (IntKind.i64.wrap (0 + 1)))
   refine ⟨0, _, H1, H2, .rd L0, .rd L1, .wr w1, .wr w2, ?_, fun j hj => by rw [k2 j hj, k1 j hj]⟩
   have e : (l.map cv ++ [(ptA p, aA.int .i64 0)]).modify (l.map cv).length (fun e => (e.1, aA.int .i64 (IntKind.i64.wrap (0 + 1)))) = (bump p l).map cv := by
    unfold bump
    rw [hi, List.map_append]
    refine List.ext_getElem? fun q => ?_
    rw [List.getElem?_modify]
    by_cases c : q < (l.map cv).length
    ·rw [List.getElem?_append_left c, List.getElem?_append_left c]
     simp only [if_neg (show ¬ (l.map cv).length = q by omega)]; simp
    ·rw [List.getElem?_append_right (by omega), List.getElem?_append_right (by omega)]
     by_cases d : q = (l.map cv).length
     ·subst d
      simp [cv, show IntKind.i64.wrap 1 = 1 from rfl]
     ·rw [List.getElem?_eq_none (by simp only [List.length_cons, List.length_nil]; omega), List.getElem?_eq_none (by simp only [List.map_cons, List.map_nil, List.length_cons, List.length_nil]; omega)]; rfl
   rw [← e]; exact m2
 obtain ⟨z0, st, H1, H2, F1, F2, F3, F4, hm2, hk2⟩ := main
 have hH2 : s'.heap.get = H2 := by
  funext j
  rw [hset j]
  by_cases c : j = mid
  ·subst c
   rw [if_pos rfl]
   have := hm2
   unfold iS at this
   rw [this, List.length_map]
  ·rw [if_neg c, e2.heap, e1.heap, hk2 j c]
 have hnx : s'.next = s.next := by rw [hn3, e2.next, e1.next]
 let val : Nat → aA := fun k => match k with
  | 0 => .map mid | 1 => .ptr x 0 | 2 => ptA p | 3 => .int .i64 z0 | 4 => .int .i64 (IntKind.i64.wrap (z0 + 1)) | 5 => aA.tup [.int .i64 z0, .int .i64 st] | _ => .int .i64 st
 have plan := G0 (pos := pos) (n := s.next) (val := val) hmm hcc hlen hfa hm hc F1 F2 F3 F4 F5 rfl rfl rfl rfl rfl rfl rfl
 refine wpIn_region_any env.DZ (HI (n := s.next) (J := J b tm val s.heap.get H1 H2) (pA (E := env)) plan rfl (ρ₀ := ρ) (m := m) (w₀ := w) (a₀ := a) (fun listed tm1 h1 a1 w1 ρ1 hall hj hr1 ht1 hle hnew hfr hd => ?_) 8 (Array.replicate 8 false) rfl (by simp) a _ ρ s.heap.get tm ?_ hr.drew ht (.refl ρ) (fun _ h => h) (.drew w) rfl)
 ·have hh := hj.heap
  rw [if_pos (hall 7 (show 7 < 8 by decide))] at hh
  subst hh
  refine hQ _ _ _ ρ1 [] ⟨?_, ?_, .normal, hd, .nil m, fun _ => rfl⟩
  ·rw [Mem.gK]
   exact ⟨hle, fun id q => .inl (hnew id q), fun _ _ h => h, by rw [hH2]; exact hr1, hfr, by rw [hnx]; exact Nat.le_refl _⟩
  ·rw [Mem.gK]
   refine IQ ht1 (by rw [xG, hj.len]) fun i v hv => ?_
   rcases xH _ _ i v hv with q | ⟨q1, q2⟩
   ·exact .inl q
   ·refine .inr ?_
    rw [hj.bM i (by simp at q1; omega)]
    exact q2
 ·have none : ∀ k, ¬ ((Array.replicate 8 false).getD k false = true) := fun k => by
   by_cases hk : k < 8 <;> simp [Array.getD, hk]
  exact ⟨rfl, rfl, fun k _ q => absurd q (none k), fun _ _ => rfl, fun k q => absurd q (none k), by rw [if_neg (none 7), if_neg (none 5)]⟩
end Go.Am.Ytlgebaofkolkoaa.Ins
set_option linter.unusedSimpArgs false
set_option linter.unusedVariables false
set_option linter.defProp false
set_option maxRecDepth 10000
namespace Go.Am.Ytlgebaofkolkoaa.Ins
open Go Go.Am Go.Proofs
theorem ak2 (x : Nat) : fieldAddr env 31 (.ptr x 0) 0 = M.pure (.ptr x 0) := rfl
theorem ak1 (x : Nat) : fieldAddr env 48 (.ptr x 0) 0 = M.pure (.ptr x 0) := rfl
noncomputable def KP : List aA → M (gH × List aA) := tX 3 5 [17, 18, 19, 20, 21, 22, 23]
noncomputable def GA : List aA → M (gH × List aA) := tX 3 8 [73, 74, 75, 76, 77, 78, 79]
noncomputable def LH : rV Try.prog := ⟨113, 4, .region 4 (DF 17 3 5 31 "coin.go:24") true, KP, fun rnd => BI 17 3 5 31 "coin.go:24" 4 rnd (by omega) (by omega) ak2⟩
noncomputable def GW : rV Try.prog := ⟨113, 12, .region 12 (DF 73 3 8 48 "coin.go:32") true, GA, fun rnd => BI 73 3 8 48 "coin.go:32" 12 rnd (by omega) (by omega) ak1⟩
end Go.Am.Ytlgebaofkolkoaa.Ins
set_option linter.unusedSimpArgs false
set_option linter.unusedVariables false
set_option linter.defProp false
set_option maxRecDepth 10000
namespace Go.Am.Ytlgebaofkolkoaa
open Go Go.Am
def jR (a b : Int) : Int := if a < b then -1 else if b < a then 1 else 0
def orI (a b : Int) : Int := if a = 0 then b else a
structure oP {α : Type} (c : α → α → Int) : Prop where
 refl : ∀ a, c a a = 0
 lI : ∀ a b, c b a = - c a b
 lt : ∀ a b d, c a b < 0 → c b d < 0 → c a d < 0
 eqv : ∀ a b d, c a b = 0 → c a d = c b d
theorem tW {a b : Int} : jR a b < 0 ↔ a < b := by unfold jR; split <;> (try split) <;> omega
theorem mZ {a b : Int} : jR a b = 0 ↔ a = b := by unfold jR; split <;> (try split) <;> omega
theorem uI : oP jR where
 refl := fun a => mZ.2 rfl
 lI := fun a b => by unfold jR; split <;> (try split) <;> (try split) <;> (try split) <;> omega
 lt := fun a b d h1 h2 => by rw [tW] at *; omega
 eqv := fun a b d h => by rw [mZ.1 h]
theorem pE : ∀ a : List UInt8, Go.Lib.compareBytes a a = 0
 | [] => rfl
 | x :: a => by
  simp only [Go.Lib.compareBytes, UInt8.lt_irrefl, if_false]
  exact pE a
theorem EE : ∀ a b : List UInt8, Go.Lib.compareBytes b a = - Go.Lib.compareBytes a b
 | [], [] => rfl
 | [], _ :: _ => rfl
 | _ :: _, [] => rfl
 | x :: a, y :: b => by
  simp only [Go.Lib.compareBytes]
  by_cases h1 : x < y
  ·have h2 : ¬ y < x := fun h => by rw [UInt8.lt_iff_toNat_lt] at *; omega
   rw [if_pos h1, if_neg h2, if_pos h1]; rfl
  ·by_cases h2 : y < x
   ·rw [if_pos h2, if_neg h1, if_pos h2]
   ·rw [if_neg h1, if_neg h2, if_neg h2, if_neg h1]; exact EE a b
theorem vR : ∀ a b : List UInt8, Go.Lib.compareBytes a b = 0 → a = b
 | [], [], _ => rfl
 | [], _ :: _, h => by simp [Go.Lib.compareBytes] at h
 | _ :: _, [], h => by simp [Go.Lib.compareBytes] at h
 | x :: a, y :: b, h => by
  simp only [Go.Lib.compareBytes] at h
  by_cases h1 : x < y
  ·rw [if_pos h1] at h; omega
  ·rw [if_neg h1] at h
   by_cases h2 : y < x
   ·rw [if_pos h2] at h; omega
   ·rw [if_neg h2] at h
    have e : x = y := by
     apply UInt8.toNat_inj.1
     rw [UInt8.lt_iff_toNat_lt] at *; omega
    rw [e, vR a b h]
theorem JR : ∀ a b d : List UInt8, Go.Lib.compareBytes a b < 0 → Go.Lib.compareBytes b d < 0 → Go.Lib.compareBytes a d < 0
 | [], [], d, h, _ => by simp [Go.Lib.compareBytes] at h
 | [], _ :: _, [], _, h => by simp [Go.Lib.compareBytes] at h
 | [], _ :: _, _ :: _, _, _ => by simp [Go.Lib.compareBytes]
 | _ :: _, [], _, h, _ => by simp [Go.Lib.compareBytes] at h
 | _ :: _, _ :: _, [], _, h => by simp [Go.Lib.compareBytes] at h
 | x :: a, y :: b, z :: d, h1, h2 => by
  simp only [Go.Lib.compareBytes] at *
  by_cases p : x < y
  ·by_cases q : y < z
   ·rw [if_pos (by rw [UInt8.lt_iff_toNat_lt] at *; omega)]; decide
   ·by_cases q2 : z < y
    ·rw [if_neg q, if_pos q2] at h2; omega
    ·rw [if_pos (by rw [UInt8.lt_iff_toNat_lt] at *; omega)]; decide
  ·by_cases p2 : y < x
   ·rw [if_neg p, if_pos p2] at h1; omega
   ·rw [if_neg p, if_neg p2] at h1
    by_cases q : y < z
    ·rw [if_pos (by rw [UInt8.lt_iff_toNat_lt] at *; omega)]; decide
    ·by_cases q2 : z < y
     ·rw [if_neg q, if_pos q2] at h2; omega
     ·rw [if_neg q, if_neg q2] at h2
      rw [if_neg (by rw [UInt8.lt_iff_toNat_lt] at *; omega), if_neg (by rw [UInt8.lt_iff_toNat_lt] at *; omega)]
      exact JR a b d h1 h2
theorem iO : oP Go.Lib.compareBytes := ⟨pE, EE, JR, fun a b d h => by rw [vR a b h]⟩
theorem oP.or {α : Type} {c1 c2 : α → α → Int} (a1 : oP c1) (a2 : oP c2) : oP (fun a b => orI (c1 a b) (c2 a b)) where
 refl := fun a => by simp [orI, a1.refl, a2.refl]
 lI := fun a b => by
  have h1 := a1.lI a b
  have h2 := a2.lI a b
  simp only [orI]
  by_cases h : c1 a b = 0
  ·rw [if_pos (by omega), if_pos h, h2]
  ·rw [if_neg (by omega), if_neg h, h1]
 lt := fun a b d h1 h2 => by
  simp only [orI] at *
  by_cases e1 : c1 a b = 0
  ·rw [if_pos e1] at h1
   rw [a1.eqv a b d e1]
   by_cases e2 : c1 b d = 0
   ·rw [if_pos e2] at h2 ⊢
    exact a2.lt a b d h1 h2
   ·rw [if_neg e2] at h2 ⊢
    exact h2
  ·rw [if_neg e1] at h1
   by_cases e2 : c1 b d = 0
   ·have e3 : c1 d a = c1 b a := by
     have := a1.eqv b d a e2
     exact this.symm
    have e4 := a1.lI d a
    have e5 := a1.lI b a
    rw [if_neg (by omega)]; omega
   ·rw [if_neg e2] at h2
    have := a1.lt a b d h1 h2
    rw [if_neg (by omega)]; exact this
 eqv := fun a b d h => by
  simp only [orI] at *
  by_cases e1 : c1 a b = 0
  ·rw [if_pos e1] at h
   rw [a1.eqv a b d e1, a2.eqv a b d h]
  ·rw [if_neg e1] at h; exact absurd h e1
theorem oP.on {α β : Type} {c : β → β → Int} (o : oP c) (f : α → β) : oP (fun a b => c (f a) (f b)) := ⟨fun a => o.refl _, fun a b => o.lI _ _, fun a b d => o.lt _ _ _, fun a b d => o.eqv _ _ _⟩
theorem oP.eqr {α : Type} {c : α → α → Int} (o : oP c) {a b d : α} (h : c a b = 0) : c d a = c d b := by
 have h1 := o.eqv a b d h
 have h2 := o.lI a d
 have h3 := o.lI b d
 omega
end Go.Am.Ytlgebaofkolkoaa
set_option linter.unusedSimpArgs false
set_option linter.unusedVariables false
set_option linter.defProp false
set_option maxRecDepth 10000
namespace Go.Am.Ytlgebaofkolkoaa.Ins
open Go Go.Am Go.Proofs
theorem u95 : und env 95 = M.pure (.slice 128) := by simp only [und, mK, aI]
theorem nJ : sizeOf env 128 = M.pure 1 := by simp only [sizeOf, iI, aI]
theorem KY {h : Hp} {n id len C xid : Nat} {cells : List aA} {xc : bH} {e' : TypeId} (hh : h id = some (.row (.l cells) 128)) (hC : cells.length = C) (hl : len ≤ C) (hr : 2 * (len + 1) * 8 ≤ 281474976710656) (hr2 : len + 1 ≤ 281474976710656)
  (hx : h xid = some (.row xc e')) (hxc : 0 < xc.size) (hv : bK (xc.at 0) = true) :
  Wp (fP env [95, 95] (.sl id 0 len (some C) 1) (.sl xid 0 1 (some 1) 1)) h n fun v' h' n' =>
   (len + 1 ≤ C ∧ v' = .sl id 0 (len + 1) (some C) 1 ∧ n' = n ∧ h' = upd h id (some (.row (.l (bV cells len [xc.at 0])) 128))) ∨
   (C < len + 1 ∧ v' = .sl n 0 (len + 1) none 1 ∧ n' = n + 1 ∧ h' = upd h n (some (.row (.l (cells.take len ++ [xc.at 0])) 128))) := by
 have hx1 : Rds h 1 (.sl xid 0 1 (some 1) 1) 1 [xc.at 0] := .sl xid 0 1 (some 1) xc e' _ hx rfl (by simp; omega) (fun j hj => by
  have : j = 0 := by simpa using hj
  subst this; rfl)
 have hs : Rds h 1 (.sl id 0 len (some C) 1) len (cells.take len) := .sl id 0 len (some C) (.l cells) 128 _ hh (by rw [List.length_take]; omega) (by rw [List.length_take]; show 0 + _ ≤ cells.length; omega) (fun j hj => by
  rw [List.length_take] at hj
  rw [Nat.zero_add, bH.vW (by omega), List.getElem_take])
 simp only [fP, u95, aI, fD, append, iI, lenOf, bind_assoc, gV, show (Nat.beq 1 0) = false from rfl]
 refine iH hx1.cells ?_
 simp only [bL, show (Nat.beq 1 1) = true from rfl, gC, hh, Option.some.injEq, exists_eq_left', cW, gV]
 by_cases hf : len + 1 ≤ C
 ·rw [dQ hf]
  have hb : (len + 1).ble cells.length = true := dQ (by omega)
  simp only [dS, Nat.zero_add, Nat.mul_one, bind_assoc, gC, hh, Option.some.injEq, exists_eq_left', cW, fQ, bH.size, List.length_singleton, hb, List.all_cons, List.all_nil, hv, Bool.and_true, mI, true_and, aS]
  rw [kU _ _ _ (by simp; omega)]
  exact ⟨by simp, .inl ⟨hf, rfl⟩⟩
 ·rw [iE hf]
  refine iH hs.cells ?_
  have r1 : ((2 * (len + 1) * 8).ble room && (len + 1).ble room) = true := by
   unfold room
   rw [dQ hr, dQ hr2]; rfl
  simp only [iR, fQ, iT, aS, r1, true_and]
  exact .inr ⟨by omega, trivial⟩
theorem NC {id len C k : Nat} {z : Int} (hz : z = (k : Nat)) (hk : k ≤ C) {h' : Hp} {n' : Nat} : Rd (slice env 95 (.sl id 0 len (some C) 1) none (some (.int .i64 z)) none) h' n' [] (.sl id 0 k (some C) 1) := by
 subst hz
 simp only [slice, u95, nJ, aI, cX, dF, bind_assoc, bL, show (Nat.beq 1 1) = true from rfl, Nat.zero_mul, Nat.add_zero, Nat.sub_zero, Int.toNat_natCast]
 exact Rd.bind (i2 := []) (Rd.ob (decide_eq_true ⟨by omega, by omega⟩)) (Rd.pure _)
theorem A2 {id len C k : Nat} {z : Int} (hz : z = (k : Nat)) (hk : k ≤ len) (hl : len ≤ C) {h' : Hp} {n' : Nat} : Rd (slice env 95 (.sl id 0 len (some C) 1) (some (.int .i64 z)) none none) h' n' [] (.sl id k (len - k) (some (C - k)) 1) := by
 subst hz
 simp only [slice, u95, nJ, aI, cX, dF, bind_assoc, bL, show (Nat.beq 1 1) = true from rfl, Nat.zero_add, Nat.mul_one, Int.toNat_natCast]
 exact Rd.bind (i2 := []) (Rd.ob (decide_eq_true ⟨by omega, by omega⟩)) (Rd.pure _)
theorem GN {id len k : Nat} {z : Int} (hz : z = (k : Nat)) (hk : k ≤ len) {h' : Hp} {n' : Nat} : Rd (slice env 95 (.sl id 0 len none 1) (some (.int .i64 z)) none none) h' n' [] (.sl id k (len - k) none 1) := by
 subst hz
 simp only [slice, kZ, u95, nJ, aI, cX, dF, bind_assoc, bL, show (Nat.beq 1 1) = true from rfl, Nat.zero_add, Nat.mul_one, Int.toNat_natCast]
 exact Rd.bind (i2 := []) (Rd.ob (decide_eq_true ⟨by omega, by omega⟩)) (Rd.pure _)
theorem TO (m : Nat) : (gI [aA.fC] m).length = m := by rw [AA]; simp
theorem KX {h : Hp} {n id k C m : Nat} {cells : List aA} {z : Int} (hz : z = (m : Nat)) (hh : h id = some (.row (.l cells) 128)) (hC : cells.length = C) (hk : k ≤ C) (hm : 0 < m) (hc : C < k + m) (hr : 2 * (k + m) * 8 ≤ 281474976710656) (hr2 : k + m ≤ 281474976710656) :
  Wp (fP env [95, 3] (.sl id 0 k (some C) 1) (.int .i64 z)) h n fun v' h' n' => v' = .sl n 0 (k + m) none 1 ∧ n' = n + 1 ∧ h' = upd h n (some (.row (.l (cells.take k ++ gI [.fC] m)) 128)) := by
 subst hz
 have hs : Rds h 1 (.sl id 0 k (some C) 1) k (cells.take k) := .sl id 0 k (some C) (.l cells) 128 _ hh (by rw [List.length_take]; omega) (by rw [List.length_take]; show 0 + _ ≤ cells.length; omega) (fun j hj => by
  rw [List.length_take] at hj
  rw [Nat.zero_add, bH.vW (by omega), List.getElem_take])
 have u3 : und env 3 = M.pure (.int .i64) := by simp only [und, ti3, aI]
 have d : decide (0 < ((m : Nat) : Int) ∧ C < k + ((m : Nat) : Int).toNat ∧ 0 < 1 ∧ (aA.fC.cells.all bK) = true) = true := decide_eq_true ⟨by omega, by rw [Int.toNat_natCast]; omega, by omega, rfl⟩
 have r1 : ((2 * (k + m) * 8).ble room && (k + m).ble room) = true := by
  unfold room
  rw [dQ hr, dQ hr2]; rfl
 simp only [fP, u3, aI, fD, dF, tY, u95, iI, bL, show (Nat.beq 1 1) = true from rfl, bind_assoc, d, fQ, true_and]
 refine iH hs.cells ?_
 simp only [iR, Int.toNat_natCast, fQ, iT, aS, r1, true_and]
 rfl
theorem EC {h : Hp} {n d doff dl sid soff sl m : Nat} {dcap scap : Option Nat} {dc xs : List aA} {e' e2 : TypeId} {c2 : bH} (hd : h d = some (.row (.l dc) e')) (hs : h sid = some (.row c2 e2)) (hm : min sl dl = m) (h0 : 0 < m) (hf : doff + m ≤ dc.length) (hc : soff + m ≤ c2.size) (hx : c2.sub soff m = xs) (h1 : xs.all bK = true) :
  Wr (copy env 95 (.sl d doff dl dcap 1) (.sl sid soff sl scap 1)) h n [d, sid] [d] (.int .i64 m) (upd h d (some (.row (.l (bV dc doff xs)) e'))) := by
 have hl : xs.length = m := by rw [← hx, bH.gW hc]
 have hsl : m ≤ sl := by omega
 simp only [copy, u95, aI, lenOf, nJ, hm]
 have a0 : (m.beq 0) = false := jU (by omega)
 refine Wr.bind (i1 := []) (rs := [d, sid]) (Rd.ask _) ?_
 rw [a0]
 simp only
 refine Wr.bind (rs := [d]) (i1 := [sid]) (a := xs) ?_ ?_
 ·simp only [cU, bL, show (Nat.beq 1 1) = true from rfl, Nat.mul_one]
  refine Rd.bind (i2 := []) (i1 := [sid]) (Rd.get hs) ?_
  simp only [cW]
  refine Rd.bind (i1 := []) (i2 := []) (Rd.ob (dQ hsl)) ?_
  refine Rd.bind (i1 := []) (i2 := []) (Rd.ob (dQ hc)) ?_
  rw [hx]
  exact Rd.pure _
 simp only [bL, show (Nat.beq 1 1) = true from rfl]
 refine Wr.ret (a := ()) ?_
 simp only [dS]
 refine Wr.bind (rs := []) (i1 := [d]) (Rd.get hd) ?_
 simp only [cW, bH.size]
 refine Wr.bind (rs := []) (i1 := []) (Rd.ob (dQ (by omega))) ?_
 simp only [h1]
 rw [kU _ _ _ (by omega)]
 exact Wr.set hd
theorem AS {α : Type} {ys : List α} {k : Nat} {v : α} (hk : k ≤ ys.length) (j : Nat) : (fG ys k v)[j]? = if j < k then ys[j]? else if j = k then some v else ys[j - 1]? := by
 have hl : (ys.take k).length = k := by rw [List.length_take]; omega
 unfold fG
 by_cases a : j < k
 ·rw [if_pos a, List.getElem?_append_left (by omega), List.getElem?_take, if_pos a]
 ·rw [if_neg a, List.getElem?_append_right (by omega), hl]
  by_cases b : j = k
  ·subst b; rw [if_pos rfl, Nat.sub_self]; rfl
  ·rw [if_neg b, show j - k = (j - k - 1) + 1 by omega, List.getElem?_cons_succ, List.getElem?_drop]
   congr 1; omega
theorem L7 {xs ys : List aA} {k len : Nat} {v : aA} (hy : ys.length = len) (hk : k < len) (hx : len + 1 ≤ xs.length) (he : ∀ j, j < k → xs[j]? = ys[j]?) : (bV (bV xs k [v]) (k + 1) (ys.drop k)).take (len + 1) = fG ys k v := by
 have h1 : (bV xs k [v]).length = xs.length := eA (by simp; omega)
 have h2 : (ys.drop k).length = len - k := by rw [List.length_drop, hy]
 refine List.ext_getElem? fun j => ?_
 rw [AS (by omega)]
 by_cases hj : j < len + 1
 ·rw [List.getElem?_take, if_pos hj, iN (by rw [h1, h2]; omega), h2, iN (by simp; omega)]
  simp only [List.length_singleton]
  by_cases a : j < k
  ·rw [if_neg (by omega), if_neg (by omega), if_pos a, he j a]
  ·by_cases b : j = k
   ·subst b; rw [if_neg (by omega), if_pos (by omega), if_neg a, if_pos rfl, Nat.sub_self]; rfl
   ·rw [if_pos (by omega), if_neg a, if_neg b, List.getElem?_drop]
    congr 1; omega
 ·rw [List.getElem?_eq_none (by rw [List.length_take]; omega), if_neg (by omega), if_neg (by omega), List.getElem?_eq_none (by omega)]
theorem MC {xs : List aA} {k len : Nat} {v : aA} (hk : k < len) (hx : len + 1 ≤ xs.length) : (bV (bV xs (k + 1) ((xs.take len).drop k)) k [v]).take (len + 1) = fG (xs.take len) k v := by
 have hy : (xs.take len).length = len := by rw [List.length_take]; omega
 have h2 : ((xs.take len).drop k).length = len - k := by rw [List.length_drop, hy]
 have h1 : (bV xs (k + 1) ((xs.take len).drop k)).length = xs.length := eA (by rw [h2]; omega)
 refine List.ext_getElem? fun j => ?_
 rw [AS (by omega)]
 by_cases hj : j < len + 1
 ·rw [List.getElem?_take, if_pos hj, iN (by simp; omega), iN (by rw [h2]; omega), h2]
  simp only [List.length_singleton]
  by_cases a : j < k
  ·rw [if_neg (by omega), if_neg (by omega), if_pos a, List.getElem?_take, if_pos (by omega)]
  ·by_cases b : j = k
   ·subst b; rw [if_pos (by omega), if_neg a, if_pos rfl, Nat.sub_self]; rfl
   ·rw [if_neg (by omega), if_pos (by omega), if_neg a, if_neg b, List.getElem?_drop]
    congr 1; omega
 ·rw [List.getElem?_eq_none (by rw [List.length_take]; omega), if_neg (by omega), if_neg (by omega), List.getElem?_eq_none (by omega)]
theorem SM {h : Hp} {n xid id off len l2 off2 : Nat} {c1 c2 : Option Nat} {xc c : bH} {e' : TypeId} (hx : h xid = some (.row xc 128)) (hh : h id = some (.row c e')) (hne : xid ≠ id) (h1 : 0 < len) (h2 : 0 < l2) (h3 : 0 < c.size) :
  Wp (gS 128 [.sl xid off len c1 1, .sl id off2 l2 c2 1]) h n fun v' h' n' => v' = .bool false ∧ h' = h ∧ n' = n := by
 have b1 : (xid.beq id) = false := jU hne
 have b2 : Nat.blt 0 len = true := Nat.ble_eq_true_of_le h1
 have b3 : Nat.blt 0 l2 = true := Nat.ble_eq_true_of_le h2
 have b4 : Nat.blt 0 c.size = true := Nat.ble_eq_true_of_le h3
 simp only [gS, fQ, b1, b2, b3, b4, Bool.not_false, Bool.and_self, true_and, gC, hx, hh, Option.some.injEq, exists_eq_left', cW, Nat.beq_refl, aS, and_self]
set_option maxHeartbeats 8000000 in
theorem f104 (h : Hp) (n : Nat) (id len C k xid : Nat) (cells : List aA) (xc : bH) (hh : h id = some (.row (.l cells) 128)) (hC : cells.length = C) (hl : len ≤ C) (h0 : 0 < C) (hr : 2 * (len + 1) * 8 ≤ 281474976710656) (hr2 : len + 1 ≤ 281474976710656) (hk : k ≤ len) (h1 : (cells.take len).all bK = true)
  (hx : h xid = some (.row xc 128)) (hxc : 0 < xc.size) (hv : bK (xc.at 0) = true) (hxn : xid < n) (hin : id < n) (hne : xid ≠ id) :
  Wp (bO env (aX env) 104 [.sl id 0 len (some C) 1, .int .i64 (k : Nat), .sl xid 0 1 (some 1) 1]) h n fun v' h' n' =>
   (v' = .sl id 0 (len + 1) (some C) 1 ∧ n' = n ∧ len + 1 ≤ C ∧ ∃ cells', cells'.length = C ∧ cells'.take (len + 1) = fG (cells.take len) k (xc.at 0) ∧ ∀ j, h' j = if j = id then some (.row (.l cells') 128) else h j) ∨
   (v' = .sl n 0 (len + 1) none 1 ∧ n' = n + 1 ∧ ∀ j, h' j = if j = n then some (.row (.l (fG (cells.take len) k (xc.at 0))) 128) else h j) := by
 refine bG NQ NP ?_
 have hs : Rds h 1 (.sl id 0 len (some C) 1) len (cells.take len) := .sl id 0 len (some C) (.l cells) 128 _ hh (by rw [List.length_take]; omega) (by rw [List.length_take]; show 0 + _ ≤ cells.length; omega) (fun j hj => by
  rw [List.length_take] at hj
  rw [Nat.zero_add, bH.vW (by omega), List.getElem_take])
 simp only [xM, Try.f104, Option.getD_some, List.replicate, cC, aU, cZ, u8, tyr, fgr, hkr, execOp, opd, eN, opt, ofValue, eB, ofList, fM, cE, put, nth, aN, cN, bN, builtin, fW, fU, eF, cT, min2, max2, blr, eL, fD, und, sizeOf, cF, lenOf, bor, cQ, aV, cR, cD, intOp, bR, strOp, fB, dF, slK, dV, unOp, aY, branch, idx, aZ, cellsOf, eJ, eR, cel, alloc, cB, newRow, nilCheck, extract, eE, eG, bT, bX, cW, dI, aM, fieldAddr, field, part, index, bL, bF, equal, cM, bZ, dA, dE, dD, c8, List.getElem?_cons_succ, List.getElem?_cons_zero, List.append_eq, List.cons_append, List.nil_append, List.append_nil, List.length_cons, List.length_nil, Nat.reduceAdd, Nat.reduceSub, Nat.beq, Option.bind_some, nc0, nc1, Int.cast_ofNat_Int, cJ, cI, cH, ↓reduceIte, Int.reduceEq, Int.reduceLT, Int.reduceLE, Int.reduceNe, Int.reduceAdd, Int.reduceSub, Int.reduceMul, Int.reduceNeg, Int.reduceGT, Int.reduceGE, ge_iff_le, gt_iff_lt, not_true_eq_false, not_false_eq_true, decide_not, decide_true, decide_false, Bool.not_true, Bool.not_false, Bool.and_true, Bool.true_and, Bool.and_false, Bool.false_and, Bool.or_true, Bool.true_or, Bool.or_false, Bool.false_or, and_true, true_and, and_self, Nat.zero_add, Nat.add_zero, Int.toNat_zero, Nat.zero_mul, aS, beq_self_eq_true, bne_self_eq_false, reduceCtorEq]
 rw [aF (hs.qQ u95 nJ rfl hk)]
 by_cases ek : k = len
 ·subst ek
  have ei : (((k : Nat) : Int) = ((k : Nat) : Int)) = True := by simp
  have hI : fG (cells.take k) k (xc.at 0) = cells.take k ++ [xc.at 0] := by
   have hlt : (cells.take k).length = k := by rw [List.length_take]; omega
   unfold fG
   rw [List.take_of_length_le (Nat.le_of_eq hlt), List.drop_eq_nil_of_le (Nat.le_of_eq hlt)]
  simp only [cC, aU, cZ, u8, tyr, fgr, hkr, execOp, opd, eN, opt, ofValue, eB, ofList, fM, cE, put, nth, aN, cN, bN, builtin, fW, fU, eF, cT, min2, max2, blr, eL, fD, und, sizeOf, cF, lenOf, bor, cQ, aV, cR, cD, intOp, bR, strOp, fB, dF, slK, dV, unOp, aY, branch, idx, aZ, cellsOf, eJ, eR, cel, alloc, cB, newRow, nilCheck, extract, eE, eG, bT, bX, cW, dI, aM, fieldAddr, field, part, index, bL, bF, equal, cM, bZ, dA, dE, dD, c8, List.getElem?_cons_succ, List.getElem?_cons_zero, List.append_eq, List.cons_append, List.nil_append, List.append_nil, List.length_cons, List.length_nil, Nat.reduceAdd, Nat.reduceSub, Nat.beq, Option.bind_some, nc0, nc1, Int.cast_ofNat_Int, cJ, cI, cH, ↓reduceIte, Int.reduceEq, Int.reduceLT, Int.reduceLE, Int.reduceNe, Int.reduceAdd, Int.reduceSub, Int.reduceMul, Int.reduceNeg, Int.reduceGT, Int.reduceGE, ge_iff_le, gt_iff_lt, not_true_eq_false, not_false_eq_true, decide_not, decide_true, decide_false, Bool.not_true, Bool.not_false, Bool.and_true, Bool.true_and, Bool.and_false, Bool.false_and, Bool.or_true, Bool.true_or, Bool.or_false, Bool.false_or, and_true, true_and, and_self, Nat.zero_add, Nat.add_zero, Int.toNat_zero, Nat.zero_mul, aS, beq_self_eq_true, bne_self_eq_false, reduceCtorEq, ei]
  refine cG (KY hh hC hl hr hr2 hx hxc hv) fun v' h' n' hq => ?_
  rcases hq with ⟨c1, rfl, rfl, rfl⟩ | ⟨c1, rfl, rfl, rfl⟩
  ·simp only [cC, aU, cZ, u8, tyr, fgr, hkr, execOp, opd, eN, opt, ofValue, eB, ofList, fM, cE, put, nth, aN, cN, bN, builtin, fW, fU, eF, cT, min2, max2, blr, eL, fD, und, sizeOf, cF, lenOf, bor, cQ, aV, cR, cD, intOp, bR, strOp, fB, dF, slK, dV, unOp, aY, branch, idx, aZ, cellsOf, eJ, eR, cel, alloc, cB, newRow, nilCheck, extract, eE, eG, bT, bX, cW, dI, aM, fieldAddr, field, part, index, bL, bF, equal, cM, bZ, dA, dE, dD, c8, List.getElem?_cons_succ, List.getElem?_cons_zero, List.append_eq, List.cons_append, List.nil_append, List.append_nil, List.length_cons, List.length_nil, Nat.reduceAdd, Nat.reduceSub, Nat.beq, Option.bind_some, nc0, nc1, Int.cast_ofNat_Int, cJ, cI, cH, ↓reduceIte, Int.reduceEq, Int.reduceLT, Int.reduceLE, Int.reduceNe, Int.reduceAdd, Int.reduceSub, Int.reduceMul, Int.reduceNeg, Int.reduceGT, Int.reduceGE, ge_iff_le, gt_iff_lt, not_true_eq_false, not_false_eq_true, decide_not, decide_true, decide_false, Bool.not_true, Bool.not_false, Bool.and_true, Bool.true_and, Bool.and_false, Bool.false_and, Bool.or_true, Bool.true_or, Bool.or_false, Bool.false_or, and_true, true_and, and_self, Nat.zero_add, Nat.add_zero, Int.toNat_zero, Nat.zero_mul, aS, beq_self_eq_true, bne_self_eq_false, reduceCtorEq]
   refine .inl ⟨c1, _, by rw [eA (by simp; omega)]; exact hC, ?_, fun j => rfl⟩
   rw [hI, show k + 1 = k + ([xc.at 0] : List aA).length from rfl, lL (by simp; omega)]
  ·simp only [cC, aU, cZ, u8, tyr, fgr, hkr, execOp, opd, eN, opt, ofValue, eB, ofList, fM, cE, put, nth, aN, cN, bN, builtin, fW, fU, eF, cT, min2, max2, blr, eL, fD, und, sizeOf, cF, lenOf, bor, cQ, aV, cR, cD, intOp, bR, strOp, fB, dF, slK, dV, unOp, aY, branch, idx, aZ, cellsOf, eJ, eR, cel, alloc, cB, newRow, nilCheck, extract, eE, eG, bT, bX, cW, dI, aM, fieldAddr, field, part, index, bL, bF, equal, cM, bZ, dA, dE, dD, c8, List.getElem?_cons_succ, List.getElem?_cons_zero, List.append_eq, List.cons_append, List.nil_append, List.append_nil, List.length_cons, List.length_nil, Nat.reduceAdd, Nat.reduceSub, Nat.beq, Option.bind_some, nc0, nc1, Int.cast_ofNat_Int, cJ, cI, cH, ↓reduceIte, Int.reduceEq, Int.reduceLT, Int.reduceLE, Int.reduceNe, Int.reduceAdd, Int.reduceSub, Int.reduceMul, Int.reduceNeg, Int.reduceGT, Int.reduceGE, ge_iff_le, gt_iff_lt, not_true_eq_false, not_false_eq_true, decide_not, decide_true, decide_false, Bool.not_true, Bool.not_false, Bool.and_true, Bool.true_and, Bool.and_false, Bool.false_and, Bool.or_true, Bool.true_or, Bool.or_false, Bool.false_or, and_true, true_and, and_self, Nat.zero_add, Nat.add_zero, Int.toNat_zero, Nat.zero_mul, aS, beq_self_eq_true, bne_self_eq_false, reduceCtorEq]
   refine .inr fun j => ?_
   rw [hI]; rfl
 have hkl : k < len := by omega
 have ei : (((k : Nat) : Int) = ((len : Nat) : Int)) = False := by simp; omega
 simp (disch := omega) only [cC, aU, cZ, u8, tyr, fgr, hkr, execOp, opd, eN, opt, ofValue, eB, ofList, fM, cE, put, nth, aN, cN, bN, builtin, fW, fU, eF, cT, min2, max2, blr, eL, fD, und, sizeOf, cF, lenOf, bor, cQ, aV, cR, cD, intOp, bR, strOp, fB, dF, slK, dV, unOp, aY, branch, idx, aZ, cellsOf, eJ, eR, cel, alloc, cB, newRow, nilCheck, extract, eE, eG, bT, bX, cW, dI, aM, fieldAddr, field, part, index, bL, bF, equal, cM, bZ, dA, dE, dD, c8, List.getElem?_cons_succ, List.getElem?_cons_zero, List.append_eq, List.cons_append, List.nil_append, List.append_nil, List.length_cons, List.length_nil, Nat.reduceAdd, Nat.reduceSub, Nat.beq, Option.bind_some, nc0, nc1, Int.cast_ofNat_Int, cJ, cI, cH, ↓reduceIte, Int.reduceEq, Int.reduceLT, Int.reduceLE, Int.reduceNe, Int.reduceAdd, Int.reduceSub, Int.reduceMul, Int.reduceNeg, Int.reduceGT, Int.reduceGE, ge_iff_le, gt_iff_lt, not_true_eq_false, not_false_eq_true, decide_not, decide_true, decide_false, Bool.not_true, Bool.not_false, Bool.and_true, Bool.true_and, Bool.and_false, Bool.false_and, Bool.or_true, Bool.true_or, Bool.or_false, Bool.false_or, and_true, true_and, and_self, Nat.zero_add, Nat.add_zero, Int.toNat_zero, Nat.zero_mul, aS, beq_self_eq_true, bne_self_eq_false, reduceCtorEq, ei, N3, JT, w64]
 by_cases ec : C < len + 1
 ·have e1 : (((C : Nat) : Int) < ((len : Nat) : Int) + 1) = True := by simp; omega
  simp only [cC, aU, cZ, u8, tyr, fgr, hkr, execOp, opd, eN, opt, ofValue, eB, ofList, fM, cE, put, nth, aN, cN, bN, builtin, fW, fU, eF, cT, min2, max2, blr, eL, fD, und, sizeOf, cF, lenOf, bor, cQ, aV, cR, cD, intOp, bR, strOp, fB, dF, slK, dV, unOp, aY, branch, idx, aZ, cellsOf, eJ, eR, cel, alloc, cB, newRow, nilCheck, extract, eE, eG, bT, bX, cW, dI, aM, fieldAddr, field, part, index, bL, bF, equal, cM, bZ, dA, dE, dD, c8, List.getElem?_cons_succ, List.getElem?_cons_zero, List.append_eq, List.cons_append, List.nil_append, List.append_nil, List.length_cons, List.length_nil, Nat.reduceAdd, Nat.reduceSub, Nat.beq, Option.bind_some, nc0, nc1, Int.cast_ofNat_Int, cJ, cI, cH, ↓reduceIte, Int.reduceEq, Int.reduceLT, Int.reduceLE, Int.reduceNe, Int.reduceAdd, Int.reduceSub, Int.reduceMul, Int.reduceNeg, Int.reduceGT, Int.reduceGE, ge_iff_le, gt_iff_lt, not_true_eq_false, not_false_eq_true, decide_not, decide_true, decide_false, Bool.not_true, Bool.not_false, Bool.and_true, Bool.true_and, Bool.and_false, Bool.false_and, Bool.or_true, Bool.true_or, Bool.or_false, Bool.false_or, and_true, true_and, and_self, Nat.zero_add, Nat.add_zero, Int.toNat_zero, Nat.zero_mul, aS, beq_self_eq_true, bne_self_eq_false, reduceCtorEq, e1]
  rw [aF (NC rfl (by omega))]
  simp (disch := omega) only [cC, aU, cZ, u8, tyr, fgr, hkr, execOp, opd, eN, opt, ofValue, eB, ofList, fM, cE, put, nth, aN, cN, bN, builtin, fW, fU, eF, cT, min2, max2, blr, eL, fD, und, sizeOf, cF, lenOf, bor, cQ, aV, cR, cD, intOp, bR, strOp, fB, dF, slK, dV, unOp, aY, branch, idx, aZ, cellsOf, eJ, eR, cel, alloc, cB, newRow, nilCheck, extract, eE, eG, bT, bX, cW, dI, aM, fieldAddr, field, part, index, bL, bF, equal, cM, bZ, dA, dE, dD, c8, List.getElem?_cons_succ, List.getElem?_cons_zero, List.append_eq, List.cons_append, List.nil_append, List.append_nil, List.length_cons, List.length_nil, Nat.reduceAdd, Nat.reduceSub, Nat.beq, Option.bind_some, nc0, nc1, Int.cast_ofNat_Int, cJ, cI, cH, ↓reduceIte, Int.reduceEq, Int.reduceLT, Int.reduceLE, Int.reduceNe, Int.reduceAdd, Int.reduceSub, Int.reduceMul, Int.reduceNeg, Int.reduceGT, Int.reduceGE, ge_iff_le, gt_iff_lt, not_true_eq_false, not_false_eq_true, decide_not, decide_true, decide_false, Bool.not_true, Bool.not_false, Bool.and_true, Bool.true_and, Bool.and_false, Bool.false_and, Bool.or_true, Bool.true_or, Bool.or_false, Bool.false_or, and_true, true_and, and_self, Nat.zero_add, Nat.add_zero, Int.toNat_zero, Nat.zero_mul, aS, beq_self_eq_true, bne_self_eq_false, reduceCtorEq, w64]
  refine cG (KX (m := len + 1 - k) (by omega) hh hC (by omega) (by omega) (by omega) (by omega) (by omega)) fun v' h' n' ⟨e1, e2, e3⟩ => ?_
  subst e1; subst e2; subst e3
  rw [show k + (len + 1 - k) = len + 1 by omega]
  simp (disch := omega) only [cC, aU, cZ, u8, tyr, fgr, hkr, execOp, opd, eN, opt, ofValue, eB, ofList, fM, cE, put, nth, aN, cN, bN, builtin, fW, fU, eF, cT, min2, max2, blr, eL, fD, und, sizeOf, cF, lenOf, bor, cQ, aV, cR, cD, intOp, bR, strOp, fB, dF, slK, dV, unOp, aY, branch, idx, aZ, cellsOf, eJ, eR, cel, alloc, cB, newRow, nilCheck, extract, eE, eG, bT, bX, cW, dI, aM, fieldAddr, field, part, index, bL, bF, equal, cM, bZ, dA, dE, dD, c8, List.getElem?_cons_succ, List.getElem?_cons_zero, List.append_eq, List.cons_append, List.nil_append, List.append_nil, List.length_cons, List.length_nil, Nat.reduceAdd, Nat.reduceSub, Nat.beq, Option.bind_some, nc0, nc1, Int.cast_ofNat_Int, cJ, cI, cH, ↓reduceIte, Int.reduceEq, Int.reduceLT, Int.reduceLE, Int.reduceNe, Int.reduceAdd, Int.reduceSub, Int.reduceMul, Int.reduceNeg, Int.reduceGT, Int.reduceGE, ge_iff_le, gt_iff_lt, not_true_eq_false, not_false_eq_true, decide_not, decide_true, decide_false, Bool.not_true, Bool.not_false, Bool.and_true, Bool.true_and, Bool.and_false, Bool.false_and, Bool.or_true, Bool.true_or, Bool.or_false, Bool.false_or, and_true, true_and, and_self, Nat.zero_add, Nat.add_zero, Int.toNat_zero, Nat.zero_mul, aS, beq_self_eq_true, bne_self_eq_false, reduceCtorEq, w64]
  rw [aF (GN rfl (by omega))]
  simp (disch := omega) only [cC, aU, cZ, u8, tyr, fgr, hkr, execOp, opd, eN, opt, ofValue, eB, ofList, fM, cE, put, nth, aN, cN, bN, builtin, fW, fU, eF, cT, min2, max2, blr, eL, fD, und, sizeOf, cF, lenOf, bor, cQ, aV, cR, cD, intOp, bR, strOp, fB, dF, slK, dV, unOp, aY, branch, idx, aZ, cellsOf, eJ, eR, cel, alloc, cB, newRow, nilCheck, extract, eE, eG, bT, bX, cW, dI, aM, fieldAddr, field, part, index, bL, bF, equal, cM, bZ, dA, dE, dD, c8, List.getElem?_cons_succ, List.getElem?_cons_zero, List.append_eq, List.cons_append, List.nil_append, List.append_nil, List.length_cons, List.length_nil, Nat.reduceAdd, Nat.reduceSub, Nat.beq, Option.bind_some, nc0, nc1, Int.cast_ofNat_Int, cJ, cI, cH, ↓reduceIte, Int.reduceEq, Int.reduceLT, Int.reduceLE, Int.reduceNe, Int.reduceAdd, Int.reduceSub, Int.reduceMul, Int.reduceNeg, Int.reduceGT, Int.reduceGE, ge_iff_le, gt_iff_lt, not_true_eq_false, not_false_eq_true, decide_not, decide_true, decide_false, Bool.not_true, Bool.not_false, Bool.and_true, Bool.true_and, Bool.and_false, Bool.false_and, Bool.or_true, Bool.true_or, Bool.or_false, Bool.false_or, and_true, true_and, and_self, Nat.zero_add, Nat.add_zero, Int.toNat_zero, Nat.zero_mul, aS, beq_self_eq_true, bne_self_eq_false, reduceCtorEq, w64]
  have hh1 := bE h n (some (Blk.row (bH.l (cells.take k ++ gI [aA.fC] (len + 1 - k))) 128))
  have hL1 : (cells.take k ++ gI [aA.fC] (len + 1 - k)).length = len + 1 := by rw [List.length_append, List.length_take, TO]; omega
  have hxs : xc.sub 0 1 = [xc.at 0] := bH.qR hxc
  rw [eQ (EC (m := 1) hh1 ((aP _ _ (by omega)).trans hx) (by omega) (by omega) (by rw [hL1]; omega) hxc hxs (by simp [hv]))]
  simp (disch := omega) only [cC, aU, cZ, u8, tyr, fgr, hkr, execOp, opd, eN, opt, ofValue, eB, ofList, fM, cE, put, nth, aN, cN, bN, builtin, fW, fU, eF, cT, min2, max2, blr, eL, fD, und, sizeOf, cF, lenOf, bor, cQ, aV, cR, cD, intOp, bR, strOp, fB, dF, slK, dV, unOp, aY, branch, idx, aZ, cellsOf, eJ, eR, cel, alloc, cB, newRow, nilCheck, extract, eE, eG, bT, bX, cW, dI, aM, fieldAddr, field, part, index, bL, bF, equal, cM, bZ, dA, dE, dD, c8, List.getElem?_cons_succ, List.getElem?_cons_zero, List.append_eq, List.cons_append, List.nil_append, List.append_nil, List.length_cons, List.length_nil, Nat.reduceAdd, Nat.reduceSub, Nat.beq, Option.bind_some, nc0, nc1, Int.cast_ofNat_Int, cJ, cI, cH, ↓reduceIte, Int.reduceEq, Int.reduceLT, Int.reduceLE, Int.reduceNe, Int.reduceAdd, Int.reduceSub, Int.reduceMul, Int.reduceNeg, Int.reduceGT, Int.reduceGE, ge_iff_le, gt_iff_lt, not_true_eq_false, not_false_eq_true, decide_not, decide_true, decide_false, Bool.not_true, Bool.not_false, Bool.and_true, Bool.true_and, Bool.and_false, Bool.false_and, Bool.or_true, Bool.true_or, Bool.or_false, Bool.false_or, and_true, true_and, and_self, Nat.zero_add, Nat.add_zero, Int.toNat_zero, Nat.zero_mul, aS, beq_self_eq_true, bne_self_eq_false, reduceCtorEq, w64]
  generalize hH : upd (upd h n (some (Blk.row (bH.l (cells.take k ++ gI [aA.fC] (len + 1 - k))) 128))) n (some (Blk.row (bH.l (bV (cells.take k ++ gI [aA.fC] (len + 1 - k)) k [xc.at 0])) 128)) = H
  have hHo : ∀ j, j ≠ n → H j = h j := fun j hj => by rw [← hH, aP _ _ hj, aP _ _ hj]
  have hHn : H n = some (Blk.row (bH.l (bV (cells.take k ++ gI [aA.fC] (len + 1 - k)) k [xc.at 0])) 128) := by rw [← hH, bE]
  refine bY ⟨rfl, ?_⟩
  simp (disch := omega) only [j5, kK, jH, iQ, jG, mV, mY, mW, mX, mU, kJ, mT, jD, jF, cC, aU, cZ, u8, tyr, fgr, hkr, execOp, opd, eN, opt, ofValue, eB, ofList, fM, cE, put, nth, aN, cN, bN, builtin, fW, fU, eF, cT, min2, max2, blr, eL, fD, und, sizeOf, cF, lenOf, bor, cQ, aV, cR, cD, intOp, bR, strOp, fB, dF, slK, dV, unOp, aY, branch, idx, aZ, cellsOf, eJ, eR, cel, alloc, cB, newRow, nilCheck, extract, eE, eG, bT, bX, cW, dI, aM, fieldAddr, field, part, index, bL, bF, equal, cM, bZ, dA, dE, dD, c8, List.getElem?_cons_succ, List.getElem?_cons_zero, List.append_eq, List.cons_append, List.nil_append, List.append_nil, List.length_cons, List.length_nil, Nat.reduceAdd, Nat.reduceSub, Nat.beq, Option.bind_some, nc0, nc1, Int.cast_ofNat_Int, cJ, cI, cH, ↓reduceIte, Int.reduceEq, Int.reduceLT, Int.reduceLE, Int.reduceNe, Int.reduceAdd, Int.reduceSub, Int.reduceMul, Int.reduceNeg, Int.reduceGT, Int.reduceGE, ge_iff_le, gt_iff_lt, not_true_eq_false, not_false_eq_true, decide_not, decide_true, decide_false, Bool.not_true, Bool.not_false, Bool.and_true, Bool.true_and, Bool.and_false, Bool.false_and, Bool.or_true, Bool.true_or, Bool.or_false, Bool.false_or, and_true, true_and, and_self, Nat.zero_add, Nat.add_zero, Int.toNat_zero, Nat.zero_mul, aS, beq_self_eq_true, bne_self_eq_false, reduceCtorEq, w64]
  rw [aR (GN (k := k + 1) (by omega) (by omega))]
  simp (disch := omega) only [j5, kK, jH, iQ, jG, mV, mY, mW, mX, mU, kJ, mT, jD, jF, cC, aU, cZ, u8, tyr, fgr, hkr, execOp, opd, eN, opt, ofValue, eB, ofList, fM, cE, put, nth, aN, cN, bN, builtin, fW, fU, eF, cT, min2, max2, blr, eL, fD, und, sizeOf, cF, lenOf, bor, cQ, aV, cR, cD, intOp, bR, strOp, fB, dF, slK, dV, unOp, aY, branch, idx, aZ, cellsOf, eJ, eR, cel, alloc, cB, newRow, nilCheck, extract, eE, eG, bT, bX, cW, dI, aM, fieldAddr, field, part, index, bL, bF, equal, cM, bZ, dA, dE, dD, c8, List.getElem?_cons_succ, List.getElem?_cons_zero, List.append_eq, List.cons_append, List.nil_append, List.append_nil, List.length_cons, List.length_nil, Nat.reduceAdd, Nat.reduceSub, Nat.beq, Option.bind_some, nc0, nc1, Int.cast_ofNat_Int, cJ, cI, cH, ↓reduceIte, Int.reduceEq, Int.reduceLT, Int.reduceLE, Int.reduceNe, Int.reduceAdd, Int.reduceSub, Int.reduceMul, Int.reduceNeg, Int.reduceGT, Int.reduceGE, ge_iff_le, gt_iff_lt, not_true_eq_false, not_false_eq_true, decide_not, decide_true, decide_false, Bool.not_true, Bool.not_false, Bool.and_true, Bool.true_and, Bool.and_false, Bool.false_and, Bool.or_true, Bool.true_or, Bool.or_false, Bool.false_or, and_true, true_and, and_self, Nat.zero_add, Nat.add_zero, Int.toNat_zero, Nat.zero_mul, aS, beq_self_eq_true, bne_self_eq_false, reduceCtorEq, w64]
  rw [aR (A2 (k := k) (by omega) (by omega) (by omega))]
  simp (disch := omega) only [j5, kK, jH, iQ, jG, mV, mY, mW, mX, mU, kJ, mT, jD, jF, cC, aU, cZ, u8, tyr, fgr, hkr, execOp, opd, eN, opt, ofValue, eB, ofList, fM, cE, put, nth, aN, cN, bN, builtin, fW, fU, eF, cT, min2, max2, blr, eL, fD, und, sizeOf, cF, lenOf, bor, cQ, aV, cR, cD, intOp, bR, strOp, fB, dF, slK, dV, unOp, aY, branch, idx, aZ, cellsOf, eJ, eR, cel, alloc, cB, newRow, nilCheck, extract, eE, eG, bT, bX, cW, dI, aM, fieldAddr, field, part, index, bL, bF, equal, cM, bZ, dA, dE, dD, c8, List.getElem?_cons_succ, List.getElem?_cons_zero, List.append_eq, List.cons_append, List.nil_append, List.append_nil, List.length_cons, List.length_nil, Nat.reduceAdd, Nat.reduceSub, Nat.beq, Option.bind_some, nc0, nc1, Int.cast_ofNat_Int, cJ, cI, cH, ↓reduceIte, Int.reduceEq, Int.reduceLT, Int.reduceLE, Int.reduceNe, Int.reduceAdd, Int.reduceSub, Int.reduceMul, Int.reduceNeg, Int.reduceGT, Int.reduceGE, ge_iff_le, gt_iff_lt, not_true_eq_false, not_false_eq_true, decide_not, decide_true, decide_false, Bool.not_true, Bool.not_false, Bool.and_true, Bool.true_and, Bool.and_false, Bool.false_and, Bool.or_true, Bool.true_or, Bool.or_false, Bool.false_or, and_true, true_and, and_self, Nat.zero_add, Nat.add_zero, Int.toNat_zero, Nat.zero_mul, aS, beq_self_eq_true, bne_self_eq_false, reduceCtorEq, w64]
  have hsub : (bH.l cells).sub k (len - k) = (cells.take len).drop k := by
   show (cells.drop k).take (len - k) = _
   rw [List.drop_take]
  have hone : ((cells.take len).drop k).all bK = true := by
   rw [List.all_eq_true] at h1 ⊢
   exact fun x hx => h1 x (List.mem_of_mem_drop hx)
  refine mS (EC (m := len - k) hHn ((hHo id (by omega)).trans hh) (by omega) (by omega) (by rw [eA (by rw [hL1]; simp; omega), hL1]; omega) (by show k + (len - k) ≤ cells.length; omega) hsub hone) ?_
  simp (disch := omega) only [j5, kK, jH, iQ, jG, mV, mY, mW, mX, mU, kJ, mT, jD, jF, cC, aU, cZ, u8, tyr, fgr, hkr, execOp, opd, eN, opt, ofValue, eB, ofList, fM, cE, put, nth, aN, cN, bN, builtin, fW, fU, eF, cT, min2, max2, blr, eL, fD, und, sizeOf, cF, lenOf, bor, cQ, aV, cR, cD, intOp, bR, strOp, fB, dF, slK, dV, unOp, aY, branch, idx, aZ, cellsOf, eJ, eR, cel, alloc, cB, newRow, nilCheck, extract, eE, eG, bT, bX, cW, dI, aM, fieldAddr, field, part, index, bL, bF, equal, cM, bZ, dA, dE, dD, c8, List.getElem?_cons_succ, List.getElem?_cons_zero, List.append_eq, List.cons_append, List.nil_append, List.append_nil, List.length_cons, List.length_nil, Nat.reduceAdd, Nat.reduceSub, Nat.beq, Option.bind_some, nc0, nc1, Int.cast_ofNat_Int, cJ, cI, cH, ↓reduceIte, Int.reduceEq, Int.reduceLT, Int.reduceLE, Int.reduceNe, Int.reduceAdd, Int.reduceSub, Int.reduceMul, Int.reduceNeg, Int.reduceGT, Int.reduceGE, ge_iff_le, gt_iff_lt, not_true_eq_false, not_false_eq_true, decide_not, decide_true, decide_false, Bool.not_true, Bool.not_false, Bool.and_true, Bool.true_and, Bool.and_false, Bool.false_and, Bool.or_true, Bool.true_or, Bool.or_false, Bool.false_or, and_true, true_and, and_self, Nat.zero_add, Nat.add_zero, Int.toNat_zero, Nat.zero_mul, aS, beq_self_eq_true, bne_self_eq_false, reduceCtorEq, w64]
  refine ⟨(by (try simp (disch := omega) only [dX, List.all_cons, List.all_nil, vN, vM, vL, Bool.not_false, Bool.true_or, Bool.and_true, Bool.true_and, vK, vJ, vI, vQ, vP, vH, vO]); repeat' (first | rfl | exact (Bool.or_eq_true _ _).mpr (.inr rfl) | refine (Bool.and_eq_true _ _).mpr ⟨?_, ?_⟩)), .inr fun j => ?_⟩
  have := L7 (xs := cells.take k ++ gI [aA.fC] (len + 1 - k)) (ys := cells.take len) (k := k) (len := len) (v := xc.at 0) (by rw [List.length_take]; omega) hkl (by omega) (fun j hj => by rw [List.getElem?_append_left (by rw [List.length_take]; omega), List.getElem?_take, if_pos hj, List.getElem?_take, if_pos (by omega)])
  rw [List.take_of_length_le (by rw [eA (by rw [eA (by rw [hL1]; simp; omega), hL1, List.length_drop, List.length_take]; omega), eA (by rw [hL1]; simp; omega)]; omega)] at this
  rw [this]
  by_cases q : j = n
  ·subst q; rw [bE, if_pos rfl]
  ·rw [aP _ _ q, if_neg q]; exact hHo j q
 have e1 : (((C : Nat) : Int) < ((len : Nat) : Int) + 1) = False := by simp; omega
 simp (disch := omega) only [cC, aU, cZ, u8, tyr, fgr, hkr, execOp, opd, eN, opt, ofValue, eB, ofList, fM, cE, put, nth, aN, cN, bN, builtin, fW, fU, eF, cT, min2, max2, blr, eL, fD, und, sizeOf, cF, lenOf, bor, cQ, aV, cR, cD, intOp, bR, strOp, fB, dF, slK, dV, unOp, aY, branch, idx, aZ, cellsOf, eJ, eR, cel, alloc, cB, newRow, nilCheck, extract, eE, eG, bT, bX, cW, dI, aM, fieldAddr, field, part, index, bL, bF, equal, cM, bZ, dA, dE, dD, c8, List.getElem?_cons_succ, List.getElem?_cons_zero, List.append_eq, List.cons_append, List.nil_append, List.append_nil, List.length_cons, List.length_nil, Nat.reduceAdd, Nat.reduceSub, Nat.beq, Option.bind_some, nc0, nc1, Int.cast_ofNat_Int, cJ, cI, cH, ↓reduceIte, Int.reduceEq, Int.reduceLT, Int.reduceLE, Int.reduceNe, Int.reduceAdd, Int.reduceSub, Int.reduceMul, Int.reduceNeg, Int.reduceGT, Int.reduceGE, ge_iff_le, gt_iff_lt, not_true_eq_false, not_false_eq_true, decide_not, decide_true, decide_false, Bool.not_true, Bool.not_false, Bool.and_true, Bool.true_and, Bool.and_false, Bool.false_and, Bool.or_true, Bool.true_or, Bool.or_false, Bool.false_or, and_true, true_and, and_self, Nat.zero_add, Nat.add_zero, Int.toNat_zero, Nat.zero_mul, aS, beq_self_eq_true, bne_self_eq_false, reduceCtorEq, e1, w64]
 rw [aF (NC (k := len + 1) (by omega) (by omega))]
 simp (disch := omega) only [cC, aU, cZ, u8, tyr, fgr, hkr, execOp, opd, eN, opt, ofValue, eB, ofList, fM, cE, put, nth, aN, cN, bN, builtin, fW, fU, eF, cT, min2, max2, blr, eL, fD, und, sizeOf, cF, lenOf, bor, cQ, aV, cR, cD, intOp, bR, strOp, fB, dF, slK, dV, unOp, aY, branch, idx, aZ, cellsOf, eJ, eR, cel, alloc, cB, newRow, nilCheck, extract, eE, eG, bT, bX, cW, dI, aM, fieldAddr, field, part, index, bL, bF, equal, cM, bZ, dA, dE, dD, c8, List.getElem?_cons_succ, List.getElem?_cons_zero, List.append_eq, List.cons_append, List.nil_append, List.append_nil, List.length_cons, List.length_nil, Nat.reduceAdd, Nat.reduceSub, Nat.beq, Option.bind_some, nc0, nc1, Int.cast_ofNat_Int, cJ, cI, cH, ↓reduceIte, Int.reduceEq, Int.reduceLT, Int.reduceLE, Int.reduceNe, Int.reduceAdd, Int.reduceSub, Int.reduceMul, Int.reduceNeg, Int.reduceGT, Int.reduceGE, ge_iff_le, gt_iff_lt, not_true_eq_false, not_false_eq_true, decide_not, decide_true, decide_false, Bool.not_true, Bool.not_false, Bool.and_true, Bool.true_and, Bool.and_false, Bool.false_and, Bool.or_true, Bool.true_or, Bool.or_false, Bool.false_or, and_true, true_and, and_self, Nat.zero_add, Nat.add_zero, Int.toNat_zero, Nat.zero_mul, aS, beq_self_eq_true, bne_self_eq_false, reduceCtorEq, w64]
 rw [aF (A2 (k := k + 1) (by omega) (by omega) (by omega))]
 simp (disch := omega) only [cC, aU, cZ, u8, tyr, fgr, hkr, execOp, opd, eN, opt, ofValue, eB, ofList, fM, cE, put, nth, aN, cN, bN, builtin, fW, fU, eF, cT, min2, max2, blr, eL, fD, und, sizeOf, cF, lenOf, bor, cQ, aV, cR, cD, intOp, bR, strOp, fB, dF, slK, dV, unOp, aY, branch, idx, aZ, cellsOf, eJ, eR, cel, alloc, cB, newRow, nilCheck, extract, eE, eG, bT, bX, cW, dI, aM, fieldAddr, field, part, index, bL, bF, equal, cM, bZ, dA, dE, dD, c8, List.getElem?_cons_succ, List.getElem?_cons_zero, List.append_eq, List.cons_append, List.nil_append, List.append_nil, List.length_cons, List.length_nil, Nat.reduceAdd, Nat.reduceSub, Nat.beq, Option.bind_some, nc0, nc1, Int.cast_ofNat_Int, cJ, cI, cH, ↓reduceIte, Int.reduceEq, Int.reduceLT, Int.reduceLE, Int.reduceNe, Int.reduceAdd, Int.reduceSub, Int.reduceMul, Int.reduceNeg, Int.reduceGT, Int.reduceGE, ge_iff_le, gt_iff_lt, not_true_eq_false, not_false_eq_true, decide_not, decide_true, decide_false, Bool.not_true, Bool.not_false, Bool.and_true, Bool.true_and, Bool.and_false, Bool.false_and, Bool.or_true, Bool.true_or, Bool.or_false, Bool.false_or, and_true, true_and, and_self, Nat.zero_add, Nat.add_zero, Int.toNat_zero, Nat.zero_mul, aS, beq_self_eq_true, bne_self_eq_false, reduceCtorEq, w64]
 refine eU (SM hx hh hne (by omega) (by omega) (by show 0 < cells.length; omega)) ?_
 simp (disch := omega) only [cC, aU, cZ, u8, tyr, fgr, hkr, execOp, opd, eN, opt, ofValue, eB, ofList, fM, cE, put, nth, aN, cN, bN, builtin, fW, fU, eF, cT, min2, max2, blr, eL, fD, und, sizeOf, cF, lenOf, bor, cQ, aV, cR, cD, intOp, bR, strOp, fB, dF, slK, dV, unOp, aY, branch, idx, aZ, cellsOf, eJ, eR, cel, alloc, cB, newRow, nilCheck, extract, eE, eG, bT, bX, cW, dI, aM, fieldAddr, field, part, index, bL, bF, equal, cM, bZ, dA, dE, dD, c8, List.getElem?_cons_succ, List.getElem?_cons_zero, List.append_eq, List.cons_append, List.nil_append, List.append_nil, List.length_cons, List.length_nil, Nat.reduceAdd, Nat.reduceSub, Nat.beq, Option.bind_some, nc0, nc1, Int.cast_ofNat_Int, cJ, cI, cH, ↓reduceIte, Int.reduceEq, Int.reduceLT, Int.reduceLE, Int.reduceNe, Int.reduceAdd, Int.reduceSub, Int.reduceMul, Int.reduceNeg, Int.reduceGT, Int.reduceGE, ge_iff_le, gt_iff_lt, not_true_eq_false, not_false_eq_true, decide_not, decide_true, decide_false, Bool.not_true, Bool.not_false, Bool.and_true, Bool.true_and, Bool.and_false, Bool.false_and, Bool.or_true, Bool.true_or, Bool.or_false, Bool.false_or, and_true, true_and, and_self, Nat.zero_add, Nat.add_zero, Int.toNat_zero, Nat.zero_mul, aS, beq_self_eq_true, bne_self_eq_false, reduceCtorEq, w64]
 refine bY ⟨rfl, ?_⟩
 simp (disch := omega) only [j5, kK, jH, iQ, jG, mV, mY, mW, mX, mU, kJ, mT, jD, jF, cC, aU, cZ, u8, tyr, fgr, hkr, execOp, opd, eN, opt, ofValue, eB, ofList, fM, cE, put, nth, aN, cN, bN, builtin, fW, fU, eF, cT, min2, max2, blr, eL, fD, und, sizeOf, cF, lenOf, bor, cQ, aV, cR, cD, intOp, bR, strOp, fB, dF, slK, dV, unOp, aY, branch, idx, aZ, cellsOf, eJ, eR, cel, alloc, cB, newRow, nilCheck, extract, eE, eG, bT, bX, cW, dI, aM, fieldAddr, field, part, index, bL, bF, equal, cM, bZ, dA, dE, dD, c8, List.getElem?_cons_succ, List.getElem?_cons_zero, List.append_eq, List.cons_append, List.nil_append, List.append_nil, List.length_cons, List.length_nil, Nat.reduceAdd, Nat.reduceSub, Nat.beq, Option.bind_some, nc0, nc1, Int.cast_ofNat_Int, cJ, cI, cH, ↓reduceIte, Int.reduceEq, Int.reduceLT, Int.reduceLE, Int.reduceNe, Int.reduceAdd, Int.reduceSub, Int.reduceMul, Int.reduceNeg, Int.reduceGT, Int.reduceGE, ge_iff_le, gt_iff_lt, not_true_eq_false, not_false_eq_true, decide_not, decide_true, decide_false, Bool.not_true, Bool.not_false, Bool.and_true, Bool.true_and, Bool.and_false, Bool.false_and, Bool.or_true, Bool.true_or, Bool.or_false, Bool.false_or, and_true, true_and, and_self, Nat.zero_add, Nat.add_zero, Int.toNat_zero, Nat.zero_mul, aS, beq_self_eq_true, bne_self_eq_false, reduceCtorEq, w64]
 rw [aR (A2 (k := k + 1) (by omega) (by omega) (by omega))]
 simp (disch := omega) only [j5, kK, jH, iQ, jG, mV, mY, mW, mX, mU, kJ, mT, jD, jF, cC, aU, cZ, u8, tyr, fgr, hkr, execOp, opd, eN, opt, ofValue, eB, ofList, fM, cE, put, nth, aN, cN, bN, builtin, fW, fU, eF, cT, min2, max2, blr, eL, fD, und, sizeOf, cF, lenOf, bor, cQ, aV, cR, cD, intOp, bR, strOp, fB, dF, slK, dV, unOp, aY, branch, idx, aZ, cellsOf, eJ, eR, cel, alloc, cB, newRow, nilCheck, extract, eE, eG, bT, bX, cW, dI, aM, fieldAddr, field, part, index, bL, bF, equal, cM, bZ, dA, dE, dD, c8, List.getElem?_cons_succ, List.getElem?_cons_zero, List.append_eq, List.cons_append, List.nil_append, List.append_nil, List.length_cons, List.length_nil, Nat.reduceAdd, Nat.reduceSub, Nat.beq, Option.bind_some, nc0, nc1, Int.cast_ofNat_Int, cJ, cI, cH, ↓reduceIte, Int.reduceEq, Int.reduceLT, Int.reduceLE, Int.reduceNe, Int.reduceAdd, Int.reduceSub, Int.reduceMul, Int.reduceNeg, Int.reduceGT, Int.reduceGE, ge_iff_le, gt_iff_lt, not_true_eq_false, not_false_eq_true, decide_not, decide_true, decide_false, Bool.not_true, Bool.not_false, Bool.and_true, Bool.true_and, Bool.and_false, Bool.false_and, Bool.or_true, Bool.true_or, Bool.or_false, Bool.false_or, and_true, true_and, and_self, Nat.zero_add, Nat.add_zero, Int.toNat_zero, Nat.zero_mul, aS, beq_self_eq_true, bne_self_eq_false, reduceCtorEq, w64]
 rw [aR (A2 (k := k) (by omega) (by omega) (by omega))]
 simp (disch := omega) only [j5, kK, jH, iQ, jG, mV, mY, mW, mX, mU, kJ, mT, jD, jF, cC, aU, cZ, u8, tyr, fgr, hkr, execOp, opd, eN, opt, ofValue, eB, ofList, fM, cE, put, nth, aN, cN, bN, builtin, fW, fU, eF, cT, min2, max2, blr, eL, fD, und, sizeOf, cF, lenOf, bor, cQ, aV, cR, cD, intOp, bR, strOp, fB, dF, slK, dV, unOp, aY, branch, idx, aZ, cellsOf, eJ, eR, cel, alloc, cB, newRow, nilCheck, extract, eE, eG, bT, bX, cW, dI, aM, fieldAddr, field, part, index, bL, bF, equal, cM, bZ, dA, dE, dD, c8, List.getElem?_cons_succ, List.getElem?_cons_zero, List.append_eq, List.cons_append, List.nil_append, List.append_nil, List.length_cons, List.length_nil, Nat.reduceAdd, Nat.reduceSub, Nat.beq, Option.bind_some, nc0, nc1, Int.cast_ofNat_Int, cJ, cI, cH, ↓reduceIte, Int.reduceEq, Int.reduceLT, Int.reduceLE, Int.reduceNe, Int.reduceAdd, Int.reduceSub, Int.reduceMul, Int.reduceNeg, Int.reduceGT, Int.reduceGE, ge_iff_le, gt_iff_lt, not_true_eq_false, not_false_eq_true, decide_not, decide_true, decide_false, Bool.not_true, Bool.not_false, Bool.and_true, Bool.true_and, Bool.and_false, Bool.false_and, Bool.or_true, Bool.true_or, Bool.or_false, Bool.false_or, and_true, true_and, and_self, Nat.zero_add, Nat.add_zero, Int.toNat_zero, Nat.zero_mul, aS, beq_self_eq_true, bne_self_eq_false, reduceCtorEq, w64]
 have hsub : (bH.l cells).sub k (len - k) = (cells.take len).drop k := by
  show (cells.drop k).take (len - k) = _
  rw [List.drop_take]
 have hone : ((cells.take len).drop k).all bK = true := by
  rw [List.all_eq_true] at h1 ⊢
  exact fun x hx => h1 x (List.mem_of_mem_drop hx)
 have hl2 : ((cells.take len).drop k).length = len - k := by rw [List.length_drop, List.length_take]; omega
 refine mS (EC (m := len - k) hh hh (by omega) (by omega) (by omega) (by show k + (len - k) ≤ cells.length; omega) hsub hone) ?_
 simp (disch := omega) only [j5, kK, jH, iQ, jG, mV, mY, mW, mX, mU, kJ, mT, jD, jF, cC, aU, cZ, u8, tyr, fgr, hkr, execOp, opd, eN, opt, ofValue, eB, ofList, fM, cE, put, nth, aN, cN, bN, builtin, fW, fU, eF, cT, min2, max2, blr, eL, fD, und, sizeOf, cF, lenOf, bor, cQ, aV, cR, cD, intOp, bR, strOp, fB, dF, slK, dV, unOp, aY, branch, idx, aZ, cellsOf, eJ, eR, cel, alloc, cB, newRow, nilCheck, extract, eE, eG, bT, bX, cW, dI, aM, fieldAddr, field, part, index, bL, bF, equal, cM, bZ, dA, dE, dD, c8, List.getElem?_cons_succ, List.getElem?_cons_zero, List.append_eq, List.cons_append, List.nil_append, List.append_nil, List.length_cons, List.length_nil, Nat.reduceAdd, Nat.reduceSub, Nat.beq, Option.bind_some, nc0, nc1, Int.cast_ofNat_Int, cJ, cI, cH, ↓reduceIte, Int.reduceEq, Int.reduceLT, Int.reduceLE, Int.reduceNe, Int.reduceAdd, Int.reduceSub, Int.reduceMul, Int.reduceNeg, Int.reduceGT, Int.reduceGE, ge_iff_le, gt_iff_lt, not_true_eq_false, not_false_eq_true, decide_not, decide_true, decide_false, Bool.not_true, Bool.not_false, Bool.and_true, Bool.true_and, Bool.and_false, Bool.false_and, Bool.or_true, Bool.true_or, Bool.or_false, Bool.false_or, and_true, true_and, and_self, Nat.zero_add, Nat.add_zero, Int.toNat_zero, Nat.zero_mul, aS, beq_self_eq_true, bne_self_eq_false, reduceCtorEq, w64]
 refine ⟨(by (try simp (disch := omega) only [dX, List.all_cons, List.all_nil, vN, vM, vL, Bool.not_false, Bool.true_or, Bool.and_true, Bool.true_and, vK, vJ, vI, vQ, vP, vH, vO]); repeat' (first | rfl | exact (Bool.or_eq_true _ _).mpr (.inr rfl) | refine (Bool.and_eq_true _ _).mpr ⟨?_, ?_⟩)), ?_⟩
 rw [aF (A2 (k := k) (by omega) (by omega) (by omega))]
 simp (disch := omega) only [cC, aU, cZ, u8, tyr, fgr, hkr, execOp, opd, eN, opt, ofValue, eB, ofList, fM, cE, put, nth, aN, cN, bN, builtin, fW, fU, eF, cT, min2, max2, blr, eL, fD, und, sizeOf, cF, lenOf, bor, cQ, aV, cR, cD, intOp, bR, strOp, fB, dF, slK, dV, unOp, aY, branch, idx, aZ, cellsOf, eJ, eR, cel, alloc, cB, newRow, nilCheck, extract, eE, eG, bT, bX, cW, dI, aM, fieldAddr, field, part, index, bL, bF, equal, cM, bZ, dA, dE, dD, c8, List.getElem?_cons_succ, List.getElem?_cons_zero, List.append_eq, List.cons_append, List.nil_append, List.append_nil, List.length_cons, List.length_nil, Nat.reduceAdd, Nat.reduceSub, Nat.beq, Option.bind_some, nc0, nc1, Int.cast_ofNat_Int, cJ, cI, cH, ↓reduceIte, Int.reduceEq, Int.reduceLT, Int.reduceLE, Int.reduceNe, Int.reduceAdd, Int.reduceSub, Int.reduceMul, Int.reduceNeg, Int.reduceGT, Int.reduceGE, ge_iff_le, gt_iff_lt, not_true_eq_false, not_false_eq_true, decide_not, decide_true, decide_false, Bool.not_true, Bool.not_false, Bool.and_true, Bool.true_and, Bool.and_false, Bool.false_and, Bool.or_true, Bool.true_or, Bool.or_false, Bool.false_or, and_true, true_and, and_self, Nat.zero_add, Nat.add_zero, Int.toNat_zero, Nat.zero_mul, aS, beq_self_eq_true, bne_self_eq_false, reduceCtorEq, w64]
 have hxs : xc.sub 0 1 = [xc.at 0] := bH.qR hxc
 have hsp : (bV cells (k + 1) ((cells.take len).drop k)).length = C := by rw [eA (by rw [hl2]; omega)]; exact hC
 rw [eQ (EC (m := 1) (bE _ _ _) ((aP _ _ hne).trans hx) (by omega) (by omega) (by rw [hsp]; omega) hxc hxs (by simp [hv]))]
 simp (disch := omega) only [cC, aU, cZ, u8, tyr, fgr, hkr, execOp, opd, eN, opt, ofValue, eB, ofList, fM, cE, put, nth, aN, cN, bN, builtin, fW, fU, eF, cT, min2, max2, blr, eL, fD, und, sizeOf, cF, lenOf, bor, cQ, aV, cR, cD, intOp, bR, strOp, fB, dF, slK, dV, unOp, aY, branch, idx, aZ, cellsOf, eJ, eR, cel, alloc, cB, newRow, nilCheck, extract, eE, eG, bT, bX, cW, dI, aM, fieldAddr, field, part, index, bL, bF, equal, cM, bZ, dA, dE, dD, c8, List.getElem?_cons_succ, List.getElem?_cons_zero, List.append_eq, List.cons_append, List.nil_append, List.append_nil, List.length_cons, List.length_nil, Nat.reduceAdd, Nat.reduceSub, Nat.beq, Option.bind_some, nc0, nc1, Int.cast_ofNat_Int, cJ, cI, cH, ↓reduceIte, Int.reduceEq, Int.reduceLT, Int.reduceLE, Int.reduceNe, Int.reduceAdd, Int.reduceSub, Int.reduceMul, Int.reduceNeg, Int.reduceGT, Int.reduceGE, ge_iff_le, gt_iff_lt, not_true_eq_false, not_false_eq_true, decide_not, decide_true, decide_false, Bool.not_true, Bool.not_false, Bool.and_true, Bool.true_and, Bool.and_false, Bool.false_and, Bool.or_true, Bool.true_or, Bool.or_false, Bool.false_or, and_true, true_and, and_self, Nat.zero_add, Nat.add_zero, Int.toNat_zero, Nat.zero_mul, aS, beq_self_eq_true, bne_self_eq_false, reduceCtorEq, w64]
 refine .inl ⟨by omega, _, ?_, MC hkl (by omega), fun j => ?_⟩
 ·rw [eA (by rw [hsp]; simp; omega)]; exact hsp
 ·by_cases q : j = id
  ·subst q; rw [bE, if_pos rfl]
  ·rw [aP _ _ q, aP _ _ q, if_neg q]
theorem yA {h : Hp} {n xid : Nat} {s : aA} {xc : bH} {e' : TypeId} (hs : s = .aT ∨ s = .emp ∨ ∃ id off c, s = .sl id off 0 (some 0) 1 ∧ h id = some (.row c 128) ∧ off ≤ c.size) (hx : h xid = some (.row xc e')) (hxc : 0 < xc.size) (hv : bK (xc.at 0) = true) :
  Wp (fP env [95, 95] s (.sl xid 0 1 (some 1) 1)) h n fun v' h' n' => v' = .sl n 0 1 none 1 ∧ n' = n + 1 ∧ ∀ j, h' j = if j = n then some (.row (.l [xc.at 0]) 128) else h j := by
 have hx1 : Rds h 1 (.sl xid 0 1 (some 1) 1) 1 [xc.at 0] := .sl xid 0 1 (some 1) xc e' _ hx rfl (by simp; omega) (fun j hj => by
  have : j = 0 := by simpa using hj
  subst this; rfl)
 have key : ∀ j, upd h n (some (Blk.row (bH.l [xc.at 0]) 128)) j = if j = n then some (.row (.l [xc.at 0]) 128) else h j := fun j => rfl
 have r1 : ((2 * 1 * 8).ble room && (1).ble room) = true := rfl
 rcases hs with rfl | rfl | ⟨id, off, c, rfl, hc1, hc2⟩
 ·simp only [fP, u95, aI, fD, append, iI, lenOf, bind_assoc, gV, show (Nat.beq 1 0) = false from rfl]
  refine iH hx1.cells ?_
  simp only [iR, fQ, iT, aS, r1, true_and]
  exact key
 ·simp only [fP, u95, aI, fD, append, iI, lenOf, bind_assoc, gV, show (Nat.beq 1 0) = false from rfl]
  refine iH hx1.cells ?_
  simp only [iR, fQ, iT, aS, r1, true_and]
  exact key
 ·simp only [fP, u95, aI, fD, append, iI, lenOf, bind_assoc, gV, show (Nat.beq 1 0) = false from rfl]
  refine iH hx1.cells ?_
  have hs0 : Rds h 1 (.sl id off 0 (some 0) 1) 0 [] := .sl id off 0 (some 0) c 128 _ hc1 rfl (by simpa using hc2) (fun j hj => by simp at hj)
  simp only [bL, show (Nat.beq 1 1) = true from rfl, gC, hc1, Option.some.injEq, exists_eq_left', cW, gV, show (Nat.ble (0 + 1) 0) = false from rfl]
  refine iH hs0.cells ?_
  simp only [iR, Nat.zero_add, List.nil_append, fQ, iT, aS, r1, true_and]
  exact key
theorem W0 (h : Hp) (n : Nat) (s : aA) (xid : Nat) (xc : bH) (hs : s = .aT ∨ s = .emp ∨ ∃ id off c, s = .sl id off 0 (some 0) 1 ∧ h id = some (.row c 128) ∧ off ≤ c.size) (hx : h xid = some (.row xc 128)) (hxc : 0 < xc.size) (hv : bK (xc.at 0) = true) (hxn : xid < n) :
  Wp (bO env (aX env) 104 [s, .int .i64 0, .sl xid 0 1 (some 1) 1]) h n fun v' h' n' => v' = .sl n 0 1 none 1 ∧ n' = n + 1 ∧ ∀ j, h' j = if j = n then some (.row (.l [xc.at 0]) 128) else h j := by
 refine bG NQ NP ?_
 have hxs : xc.sub 0 1 = [xc.at 0] := bH.qR hxc
 have b1 : Nat.ble (0 + 1) xc.size = true := Nat.ble_eq_true_of_le hxc
 have b2 : Nat.ble 1 xc.size = true := Nat.ble_eq_true_of_le hxc
 rcases hs with rfl | rfl | ⟨id, off, c, rfl, hc1, hc2⟩
 ·simp only [xM, Try.f104, Option.getD_some, List.replicate, cC, aU, cZ, u8, tyr, fgr, hkr, execOp, opd, eN, opt, ofValue, eB, ofList, fM, cE, put, nth, aN, cN, bN, builtin, fW, fU, eF, cT, min2, max2, blr, eL, fD, und, sizeOf, cF, lenOf, bor, cQ, aV, cR, cD, intOp, bR, strOp, fB, dF, slK, dV, unOp, aY, branch, idx, aZ, cellsOf, eJ, eR, cel, alloc, cB, newRow, nilCheck, extract, eE, eG, bT, bX, cW, dI, aM, fieldAddr, field, part, index, bL, bF, equal, cM, bZ, dA, dE, dD, c8, List.getElem?_cons_succ, List.getElem?_cons_zero, List.append_eq, List.cons_append, List.nil_append, List.append_nil, List.length_cons, List.length_nil, Nat.reduceAdd, Nat.reduceSub, Nat.beq, Option.bind_some, nc0, nc1, Int.cast_ofNat_Int, cJ, cI, cH, ↓reduceIte, Int.reduceEq, Int.reduceLT, Int.reduceLE, Int.reduceNe, Int.reduceAdd, Int.reduceSub, Int.reduceMul, Int.reduceNeg, Int.reduceGT, Int.reduceGE, ge_iff_le, gt_iff_lt, not_true_eq_false, not_false_eq_true, decide_not, decide_true, decide_false, Bool.not_true, Bool.not_false, Bool.and_true, Bool.true_and, Bool.and_false, Bool.false_and, Bool.or_true, Bool.true_or, Bool.or_false, Bool.false_or, and_true, true_and, and_self, Nat.zero_add, Nat.add_zero, Int.toNat_zero, Nat.zero_mul, aS, beq_self_eq_true, bne_self_eq_false, reduceCtorEq, slice, cX, yM]
  refine cG (yA (.inl rfl) hx hxc hv) fun v' h' n' ⟨e1, e2, e3⟩ => ?_
  subst e1
  simp only [cC, aU, cZ, u8, tyr, fgr, hkr, execOp, opd, eN, opt, ofValue, eB, ofList, fM, cE, put, nth, aN, cN, bN, builtin, fW, fU, eF, cT, min2, max2, blr, eL, fD, und, sizeOf, cF, lenOf, bor, cQ, aV, cR, cD, intOp, bR, strOp, fB, dF, slK, dV, unOp, aY, branch, idx, aZ, cellsOf, eJ, eR, cel, alloc, cB, newRow, nilCheck, extract, eE, eG, bT, bX, cW, dI, aM, fieldAddr, field, part, index, bL, bF, equal, cM, bZ, dA, dE, dD, c8, List.getElem?_cons_succ, List.getElem?_cons_zero, List.append_eq, List.cons_append, List.nil_append, List.append_nil, List.length_cons, List.length_nil, Nat.reduceAdd, Nat.reduceSub, Nat.beq, Option.bind_some, nc0, nc1, Int.cast_ofNat_Int, cJ, cI, cH, ↓reduceIte, Int.reduceEq, Int.reduceLT, Int.reduceLE, Int.reduceNe, Int.reduceAdd, Int.reduceSub, Int.reduceMul, Int.reduceNeg, Int.reduceGT, Int.reduceGE, ge_iff_le, gt_iff_lt, not_true_eq_false, not_false_eq_true, decide_not, decide_true, decide_false, Bool.not_true, Bool.not_false, Bool.and_true, Bool.true_and, Bool.and_false, Bool.false_and, Bool.or_true, Bool.true_or, Bool.or_false, Bool.false_or, and_true, true_and, and_self, Nat.zero_add, Nat.add_zero, Int.toNat_zero, Nat.zero_mul, aS, beq_self_eq_true, bne_self_eq_false, reduceCtorEq, e2]
  exact e3
 ·simp only [xM, Try.f104, Option.getD_some, List.replicate, cC, aU, cZ, u8, tyr, fgr, hkr, execOp, opd, eN, opt, ofValue, eB, ofList, fM, cE, put, nth, aN, cN, bN, builtin, fW, fU, eF, cT, min2, max2, blr, eL, fD, und, sizeOf, cF, lenOf, bor, cQ, aV, cR, cD, intOp, bR, strOp, fB, dF, slK, dV, unOp, aY, branch, idx, aZ, cellsOf, eJ, eR, cel, alloc, cB, newRow, nilCheck, extract, eE, eG, bT, bX, cW, dI, aM, fieldAddr, field, part, index, bL, bF, equal, cM, bZ, dA, dE, dD, c8, List.getElem?_cons_succ, List.getElem?_cons_zero, List.append_eq, List.cons_append, List.nil_append, List.append_nil, List.length_cons, List.length_nil, Nat.reduceAdd, Nat.reduceSub, Nat.beq, Option.bind_some, nc0, nc1, Int.cast_ofNat_Int, cJ, cI, cH, ↓reduceIte, Int.reduceEq, Int.reduceLT, Int.reduceLE, Int.reduceNe, Int.reduceAdd, Int.reduceSub, Int.reduceMul, Int.reduceNeg, Int.reduceGT, Int.reduceGE, ge_iff_le, gt_iff_lt, not_true_eq_false, not_false_eq_true, decide_not, decide_true, decide_false, Bool.not_true, Bool.not_false, Bool.and_true, Bool.true_and, Bool.and_false, Bool.false_and, Bool.or_true, Bool.true_or, Bool.or_false, Bool.false_or, and_true, true_and, and_self, Nat.zero_add, Nat.add_zero, Int.toNat_zero, Nat.zero_mul, aS, beq_self_eq_true, bne_self_eq_false, reduceCtorEq, slice, cX, yM]
  refine cG (yA (.inr (.inl rfl)) hx hxc hv) fun v' h' n' ⟨e1, e2, e3⟩ => ?_
  subst e1
  simp only [cC, aU, cZ, u8, tyr, fgr, hkr, execOp, opd, eN, opt, ofValue, eB, ofList, fM, cE, put, nth, aN, cN, bN, builtin, fW, fU, eF, cT, min2, max2, blr, eL, fD, und, sizeOf, cF, lenOf, bor, cQ, aV, cR, cD, intOp, bR, strOp, fB, dF, slK, dV, unOp, aY, branch, idx, aZ, cellsOf, eJ, eR, cel, alloc, cB, newRow, nilCheck, extract, eE, eG, bT, bX, cW, dI, aM, fieldAddr, field, part, index, bL, bF, equal, cM, bZ, dA, dE, dD, c8, List.getElem?_cons_succ, List.getElem?_cons_zero, List.append_eq, List.cons_append, List.nil_append, List.append_nil, List.length_cons, List.length_nil, Nat.reduceAdd, Nat.reduceSub, Nat.beq, Option.bind_some, nc0, nc1, Int.cast_ofNat_Int, cJ, cI, cH, ↓reduceIte, Int.reduceEq, Int.reduceLT, Int.reduceLE, Int.reduceNe, Int.reduceAdd, Int.reduceSub, Int.reduceMul, Int.reduceNeg, Int.reduceGT, Int.reduceGE, ge_iff_le, gt_iff_lt, not_true_eq_false, not_false_eq_true, decide_not, decide_true, decide_false, Bool.not_true, Bool.not_false, Bool.and_true, Bool.true_and, Bool.and_false, Bool.false_and, Bool.or_true, Bool.true_or, Bool.or_false, Bool.false_or, and_true, true_and, and_self, Nat.zero_add, Nat.add_zero, Int.toNat_zero, Nat.zero_mul, aS, beq_self_eq_true, bne_self_eq_false, reduceCtorEq, e2]
  exact e3
 ·simp only [xM, Try.f104, Option.getD_some, List.replicate, cC, aU, cZ, u8, tyr, fgr, hkr, execOp, opd, eN, opt, ofValue, eB, ofList, fM, cE, put, nth, aN, cN, bN, builtin, fW, fU, eF, cT, min2, max2, blr, eL, fD, und, sizeOf, cF, lenOf, bor, cQ, aV, cR, cD, intOp, bR, strOp, fB, dF, slK, dV, unOp, aY, branch, idx, aZ, cellsOf, eJ, eR, cel, alloc, cB, newRow, nilCheck, extract, eE, eG, bT, bX, cW, dI, aM, fieldAddr, field, part, index, bL, bF, equal, cM, bZ, dA, dE, dD, c8, List.getElem?_cons_succ, List.getElem?_cons_zero, List.append_eq, List.cons_append, List.nil_append, List.append_nil, List.length_cons, List.length_nil, Nat.reduceAdd, Nat.reduceSub, Nat.beq, Option.bind_some, nc0, nc1, Int.cast_ofNat_Int, cJ, cI, cH, ↓reduceIte, Int.reduceEq, Int.reduceLT, Int.reduceLE, Int.reduceNe, Int.reduceAdd, Int.reduceSub, Int.reduceMul, Int.reduceNeg, Int.reduceGT, Int.reduceGE, ge_iff_le, gt_iff_lt, not_true_eq_false, not_false_eq_true, decide_not, decide_true, decide_false, Bool.not_true, Bool.not_false, Bool.and_true, Bool.true_and, Bool.and_false, Bool.false_and, Bool.or_true, Bool.true_or, Bool.or_false, Bool.false_or, and_true, true_and, and_self, Nat.zero_add, Nat.add_zero, Int.toNat_zero, Nat.zero_mul, aS, beq_self_eq_true, bne_self_eq_false, reduceCtorEq, slice, cX, yM]
  refine cG (yA (.inr (.inr ⟨id, off, c, rfl, hc1, hc2⟩)) hx hxc hv) fun v' h' n' ⟨e1, e2, e3⟩ => ?_
  subst e1
  simp only [cC, aU, cZ, u8, tyr, fgr, hkr, execOp, opd, eN, opt, ofValue, eB, ofList, fM, cE, put, nth, aN, cN, bN, builtin, fW, fU, eF, cT, min2, max2, blr, eL, fD, und, sizeOf, cF, lenOf, bor, cQ, aV, cR, cD, intOp, bR, strOp, fB, dF, slK, dV, unOp, aY, branch, idx, aZ, cellsOf, eJ, eR, cel, alloc, cB, newRow, nilCheck, extract, eE, eG, bT, bX, cW, dI, aM, fieldAddr, field, part, index, bL, bF, equal, cM, bZ, dA, dE, dD, c8, List.getElem?_cons_succ, List.getElem?_cons_zero, List.append_eq, List.cons_append, List.nil_append, List.append_nil, List.length_cons, List.length_nil, Nat.reduceAdd, Nat.reduceSub, Nat.beq, Option.bind_some, nc0, nc1, Int.cast_ofNat_Int, cJ, cI, cH, ↓reduceIte, Int.reduceEq, Int.reduceLT, Int.reduceLE, Int.reduceNe, Int.reduceAdd, Int.reduceSub, Int.reduceMul, Int.reduceNeg, Int.reduceGT, Int.reduceGE, ge_iff_le, gt_iff_lt, not_true_eq_false, not_false_eq_true, decide_not, decide_true, decide_false, Bool.not_true, Bool.not_false, Bool.and_true, Bool.true_and, Bool.and_false, Bool.false_and, Bool.or_true, Bool.true_or, Bool.or_false, Bool.false_or, and_true, true_and, and_self, Nat.zero_add, Nat.add_zero, Int.toNat_zero, Nat.zero_mul, aS, beq_self_eq_true, bne_self_eq_false, reduceCtorEq, e2]
  exact e3
theorem KZ : EL env 104 128 nC.i := ⟨W0, fun h n id len C k xid cells xc hh hC hl h0 hr hr2 hk h1 hx hxc hv hxn hin hne => f104 h n id len C k xid cells xc hh hC hl h0 hr hr2 hk h1 hx hxc hv hxn hin hne⟩
theorem OY : kM Try.prog 108 dB := by
 refine A3 (E := env) fun args s v s' h ho => ?_
 have h0 := h
 unfold dB at h0
 split at h0
 ·rename_i x y
  obtain ⟨e, hw⟩ := BE h ho
  refine ⟨e, ?_⟩
  refine bG VQ UP ?_
  simp only [J8, Try.f108, Option.getD_some, List.replicate, cC, aU, cZ, u8, tyr, fgr, hkr, execOp, opd, eN, opt, ofValue, eB, ofList, fM, cE, put, nth, aN, cN, bN, builtin, fW, fU, eF, cT, min2, max2, blr, eL, fD, und, sizeOf, cF, lenOf, bor, cQ, aV, cR, cD, intOp, bR, strOp, fB, dF, slK, dV, unOp, aY, branch, idx, aZ, cellsOf, eJ, eR, cel, alloc, cB, newRow, nilCheck, extract, eE, eG, bT, bX, cW, dI, aM, fieldAddr, field, part, index, bL, bF, equal, cM, bZ, dA, dE, dD, c8, List.getElem?_cons_succ, List.getElem?_cons_zero, List.append_eq, List.cons_append, List.nil_append, List.append_nil, List.length_cons, List.length_nil, Nat.reduceAdd, Nat.reduceSub, Nat.beq, Option.bind_some, nc0, nc1, Int.cast_ofNat_Int, cJ, cI, cH, ↓reduceIte, Int.reduceEq, Int.reduceLT, Int.reduceLE, Int.reduceNe, Int.reduceAdd, Int.reduceSub, Int.reduceMul, Int.reduceNeg, Int.reduceGT, Int.reduceGE, ge_iff_le, gt_iff_lt, not_true_eq_false, not_false_eq_true, decide_not, decide_true, decide_false, Bool.not_true, Bool.not_false, Bool.and_true, Bool.true_and, Bool.and_false, Bool.false_and, Bool.or_true, Bool.true_or, Bool.or_false, Bool.false_or, and_true, true_and, and_self, Nat.zero_add, Nat.add_zero, Int.toNat_zero, Nat.zero_mul, aS, beq_self_eq_true, bne_self_eq_false, reduceCtorEq]
  refine cG hw fun v' h' n' ⟨e1, e2, e3⟩ => ?_
  subst e1
  simp only [cC, aU, cZ, u8, tyr, fgr, hkr, execOp, opd, eN, opt, ofValue, eB, ofList, fM, cE, put, nth, aN, cN, bN, builtin, fW, fU, eF, cT, min2, max2, blr, eL, fD, und, sizeOf, cF, lenOf, bor, cQ, aV, cR, cD, intOp, bR, strOp, fB, dF, slK, dV, unOp, aY, branch, idx, aZ, cellsOf, eJ, eR, cel, alloc, cB, newRow, nilCheck, extract, eE, eG, bT, bX, cW, dI, aM, fieldAddr, field, part, index, bL, bF, equal, cM, bZ, dA, dE, dD, c8, List.getElem?_cons_succ, List.getElem?_cons_zero, List.append_eq, List.cons_append, List.nil_append, List.append_nil, List.length_cons, List.length_nil, Nat.reduceAdd, Nat.reduceSub, Nat.beq, Option.bind_some, nc0, nc1, Int.cast_ofNat_Int, cJ, cI, cH, ↓reduceIte, Int.reduceEq, Int.reduceLT, Int.reduceLE, Int.reduceNe, Int.reduceAdd, Int.reduceSub, Int.reduceMul, Int.reduceNeg, Int.reduceGT, Int.reduceGE, ge_iff_le, gt_iff_lt, not_true_eq_false, not_false_eq_true, decide_not, decide_true, decide_false, Bool.not_true, Bool.not_false, Bool.and_true, Bool.true_and, Bool.and_false, Bool.false_and, Bool.or_true, Bool.true_or, Bool.or_false, Bool.false_or, and_true, true_and, and_self, Nat.zero_add, Nat.add_zero, Int.toNat_zero, Nat.zero_mul, aS, beq_self_eq_true, bne_self_eq_false, reduceCtorEq]
  exact ⟨e2, e3⟩
 ·exact (aD h0).elim
def EK : List aA → M aA
 | [a] => match a with
  | .ptr s off => match off.beq 0 with
   | true => (fX s).bind (cW fun c _ => match c with
     | .l cs => match cs with
      | [x, lv] => match x with
       | .ptr _ _ => match lv with
        | .aT => M.pure (.int .i64 (-1))
        | .sl _ _ len _ _ => match len.ble 1000000 with
         | true => M.pure (.int .i64 ((len : Nat) - 1))
         | false => bJ "Tip"
        | _ => bJ "Tip"
       | _ => bJ "Tip"
      | _ => bJ "Tip"
     | _ => bJ "Tip")
   | false => bJ "Tip"
  | .fC => M.pure (.int .i64 (-1))
  | _ => bJ "Tip"
 | _ => bJ "Tip"
theorem ak3 (s x o : Nat) (lv : aA) (h : Hp) (n : Nat) (hr : Row h s [.ptr x o, lv]) : Wp (bO env (aX env) 66 [.ptr s 0]) h n fun v' h' n' => v' = .bool false ∧ h' = h ∧ n' = n := by
 refine bG VE UE ?_
 simp only [MG, Try.f66, Option.getD_some, List.replicate, cC, aU, cZ, u8, tyr, fgr, hkr, execOp, opd, eN, opt, ofValue, eB, ofList, fM, cE, put, nth, aN, cN, bN, builtin, fW, fU, eF, cT, min2, max2, blr, eL, fD, und, sizeOf, cF, lenOf, bor, cQ, aV, cR, cD, intOp, bR, strOp, fB, dF, slK, dV, unOp, aY, branch, idx, aZ, cellsOf, eJ, eR, cel, alloc, cB, newRow, nilCheck, extract, eE, eG, bT, bX, cW, dI, aM, fieldAddr, field, part, index, bL, bF, equal, cM, bZ, dA, dE, dD, c8, List.getElem?_cons_succ, List.getElem?_cons_zero, List.append_eq, List.cons_append, List.nil_append, List.append_nil, List.length_cons, List.length_nil, Nat.reduceAdd, Nat.reduceSub, Nat.beq, Option.bind_some, nc0, nc1, Int.cast_ofNat_Int, cJ, cI, cH, ↓reduceIte, Int.reduceEq, Int.reduceLT, Int.reduceLE, Int.reduceNe, Int.reduceAdd, Int.reduceSub, Int.reduceMul, Int.reduceNeg, Int.reduceGT, Int.reduceGE, ge_iff_le, gt_iff_lt, not_true_eq_false, not_false_eq_true, decide_not, decide_true, decide_false, Bool.not_true, Bool.not_false, Bool.and_true, Bool.true_and, Bool.and_false, Bool.false_and, Bool.or_true, Bool.true_or, Bool.or_false, Bool.false_or, and_true, true_and, and_self, Nat.zero_add, Nat.add_zero, Int.toNat_zero, Nat.zero_mul, aS, beq_self_eq_true, bne_self_eq_false, reduceCtorEq]
 rw [aF (hr.one (off := 0) rfl EO rfl)]
 simp only [cC, aU, cZ, u8, tyr, fgr, hkr, execOp, opd, eN, opt, ofValue, eB, ofList, fM, cE, put, nth, aN, cN, bN, builtin, fW, fU, eF, cT, min2, max2, blr, eL, fD, und, sizeOf, cF, lenOf, bor, cQ, aV, cR, cD, intOp, bR, strOp, fB, dF, slK, dV, unOp, aY, branch, idx, aZ, cellsOf, eJ, eR, cel, alloc, cB, newRow, nilCheck, extract, eE, eG, bT, bX, cW, dI, aM, fieldAddr, field, part, index, bL, bF, equal, cM, bZ, dA, dE, dD, c8, List.getElem?_cons_succ, List.getElem?_cons_zero, List.append_eq, List.cons_append, List.nil_append, List.append_nil, List.length_cons, List.length_nil, Nat.reduceAdd, Nat.reduceSub, Nat.beq, Option.bind_some, nc0, nc1, Int.cast_ofNat_Int, cJ, cI, cH, ↓reduceIte, Int.reduceEq, Int.reduceLT, Int.reduceLE, Int.reduceNe, Int.reduceAdd, Int.reduceSub, Int.reduceMul, Int.reduceNeg, Int.reduceGT, Int.reduceGE, ge_iff_le, gt_iff_lt, not_true_eq_false, not_false_eq_true, decide_not, decide_true, decide_false, Bool.not_true, Bool.not_false, Bool.and_true, Bool.true_and, Bool.and_false, Bool.false_and, Bool.or_true, Bool.true_or, Bool.or_false, Bool.false_or, and_true, true_and, and_self, Nat.zero_add, Nat.add_zero, Int.toNat_zero, Nat.zero_mul, aS, beq_self_eq_true, bne_self_eq_false, reduceCtorEq]
theorem VX (s x o : Nat) (lv : aA) (k : Nat) (h : Hp) (n : Nat) (hr : Row h s [.ptr x o, lv]) (hl : cP env [57] lv = M.pure (.int .i64 (k : Nat))) (h1 : eR SP.i.desc = false) (hk : k ≤ 1000000) : Wp (bO env (aX env) 20 [.ptr s 0]) h n fun v' h' n' => v' = .int .i64 ((k : Nat) - 1) ∧ h' = h ∧ n' = n := by
 have w1 : IntKind.i64.wrap (((k : Nat) : Int) - 1) = ((k : Nat) : Int) - 1 := w64 (by omega) (by omega)
 refine bG VF UF ?_
 simp only [MI, Try.f20, Option.getD_some, List.replicate, cC, aU, cZ, u8, tyr, fgr, hkr, execOp, opd, eN, opt, ofValue, eB, ofList, fM, cE, put, nth, aN, cN, bN, builtin, fW, fU, eF, cT, min2, max2, blr, eL, fD, und, sizeOf, cF, lenOf, bor, cQ, aV, cR, cD, intOp, bR, strOp, fB, dF, slK, dV, unOp, aY, branch, idx, aZ, cellsOf, eJ, eR, cel, alloc, cB, newRow, nilCheck, extract, eE, eG, bT, bX, cW, dI, aM, fieldAddr, field, part, index, bL, bF, equal, cM, bZ, dA, dE, dD, c8, List.getElem?_cons_succ, List.getElem?_cons_zero, List.append_eq, List.cons_append, List.nil_append, List.append_nil, List.length_cons, List.length_nil, Nat.reduceAdd, Nat.reduceSub, Nat.beq, Option.bind_some, nc0, nc1, Int.cast_ofNat_Int, cJ, cI, cH, ↓reduceIte, Int.reduceEq, Int.reduceLT, Int.reduceLE, Int.reduceNe, Int.reduceAdd, Int.reduceSub, Int.reduceMul, Int.reduceNeg, Int.reduceGT, Int.reduceGE, ge_iff_le, gt_iff_lt, not_true_eq_false, not_false_eq_true, decide_not, decide_true, decide_false, Bool.not_true, Bool.not_false, Bool.and_true, Bool.true_and, Bool.and_false, Bool.false_and, Bool.or_true, Bool.true_or, Bool.or_false, Bool.false_or, and_true, true_and, and_self, Nat.zero_add, Nat.add_zero, Int.toNat_zero, Nat.zero_mul, aS, beq_self_eq_true, bne_self_eq_false, reduceCtorEq]
 refine eU (ak3 s x o lv h n hr) ?_
 simp only [cC, aU, cZ, u8, tyr, fgr, hkr, execOp, opd, eN, opt, ofValue, eB, ofList, fM, cE, put, nth, aN, cN, bN, builtin, fW, fU, eF, cT, min2, max2, blr, eL, fD, und, sizeOf, cF, lenOf, bor, cQ, aV, cR, cD, intOp, bR, strOp, fB, dF, slK, dV, unOp, aY, branch, idx, aZ, cellsOf, eJ, eR, cel, alloc, cB, newRow, nilCheck, extract, eE, eG, bT, bX, cW, dI, aM, fieldAddr, field, part, index, bL, bF, equal, cM, bZ, dA, dE, dD, c8, List.getElem?_cons_succ, List.getElem?_cons_zero, List.append_eq, List.cons_append, List.nil_append, List.append_nil, List.length_cons, List.length_nil, Nat.reduceAdd, Nat.reduceSub, Nat.beq, Option.bind_some, nc0, nc1, Int.cast_ofNat_Int, cJ, cI, cH, ↓reduceIte, Int.reduceEq, Int.reduceLT, Int.reduceLE, Int.reduceNe, Int.reduceAdd, Int.reduceSub, Int.reduceMul, Int.reduceNeg, Int.reduceGT, Int.reduceGE, ge_iff_le, gt_iff_lt, not_true_eq_false, not_false_eq_true, decide_not, decide_true, decide_false, Bool.not_true, Bool.not_false, Bool.and_true, Bool.true_and, Bool.and_false, Bool.false_and, Bool.or_true, Bool.true_or, Bool.or_false, Bool.false_or, and_true, true_and, and_self, Nat.zero_add, Nat.add_zero, Int.toNat_zero, Nat.zero_mul, aS, beq_self_eq_true, bne_self_eq_false, reduceCtorEq]
 rw [aF (hr.one (off := 1) rfl T6 rfl)]
 simp only [cC, aU, cZ, u8, tyr, fgr, hkr, execOp, opd, eN, opt, ofValue, eB, ofList, fM, cE, put, nth, aN, cN, bN, builtin, fW, fU, eF, cT, min2, max2, blr, eL, fD, und, sizeOf, cF, lenOf, bor, cQ, aV, cR, cD, intOp, bR, strOp, fB, dF, slK, dV, unOp, aY, branch, idx, aZ, cellsOf, eJ, eR, cel, alloc, cB, newRow, nilCheck, extract, eE, eG, bT, bX, cW, dI, aM, fieldAddr, field, part, index, bL, bF, equal, cM, bZ, dA, dE, dD, c8, List.getElem?_cons_succ, List.getElem?_cons_zero, List.append_eq, List.cons_append, List.nil_append, List.append_nil, List.length_cons, List.length_nil, Nat.reduceAdd, Nat.reduceSub, Nat.beq, Option.bind_some, nc0, nc1, Int.cast_ofNat_Int, cJ, cI, cH, ↓reduceIte, Int.reduceEq, Int.reduceLT, Int.reduceLE, Int.reduceNe, Int.reduceAdd, Int.reduceSub, Int.reduceMul, Int.reduceNeg, Int.reduceGT, Int.reduceGE, ge_iff_le, gt_iff_lt, not_true_eq_false, not_false_eq_true, decide_not, decide_true, decide_false, Bool.not_true, Bool.not_false, Bool.and_true, Bool.true_and, Bool.and_false, Bool.false_and, Bool.or_true, Bool.true_or, Bool.or_false, Bool.false_or, and_true, true_and, and_self, Nat.zero_add, Nat.add_zero, Int.toNat_zero, Nat.zero_mul, aS, beq_self_eq_true, bne_self_eq_false, reduceCtorEq, hl, w1]
theorem VW (h : Hp) (n : Nat) : Wp (bO env (aX env) 66 [.fC]) h n fun v' h' n' => v' = .bool true ∧ h' = h ∧ n' = n := by
 refine bG VE UE ?_
 simp only [MG, Try.f66, Option.getD_some, List.replicate, cC, aU, cZ, u8, tyr, fgr, hkr, execOp, opd, eN, opt, ofValue, eB, ofList, fM, cE, put, nth, aN, cN, bN, builtin, fW, fU, eF, cT, min2, max2, blr, eL, fD, und, sizeOf, cF, lenOf, bor, cQ, aV, cR, cD, intOp, bR, strOp, fB, dF, slK, dV, unOp, aY, branch, idx, aZ, cellsOf, eJ, eR, cel, alloc, cB, newRow, nilCheck, extract, eE, eG, bT, bX, cW, dI, aM, fieldAddr, field, part, index, bL, bF, equal, cM, bZ, dA, dE, dD, c8, List.getElem?_cons_succ, List.getElem?_cons_zero, List.append_eq, List.cons_append, List.nil_append, List.append_nil, List.length_cons, List.length_nil, Nat.reduceAdd, Nat.reduceSub, Nat.beq, Option.bind_some, nc0, nc1, Int.cast_ofNat_Int, cJ, cI, cH, ↓reduceIte, Int.reduceEq, Int.reduceLT, Int.reduceLE, Int.reduceNe, Int.reduceAdd, Int.reduceSub, Int.reduceMul, Int.reduceNeg, Int.reduceGT, Int.reduceGE, ge_iff_le, gt_iff_lt, not_true_eq_false, not_false_eq_true, decide_not, decide_true, decide_false, Bool.not_true, Bool.not_false, Bool.and_true, Bool.true_and, Bool.and_false, Bool.false_and, Bool.or_true, Bool.true_or, Bool.or_false, Bool.false_or, and_true, true_and, and_self, Nat.zero_add, Nat.add_zero, Int.toNat_zero, Nat.zero_mul, aS, beq_self_eq_true, bne_self_eq_false, reduceCtorEq]
theorem VY (h : Hp) (n : Nat) : Wp (bO env (aX env) 20 [.fC]) h n fun v' h' n' => v' = .int .i64 (-1) ∧ h' = h ∧ n' = n := by
 refine bG VF UF ?_
 simp only [MI, Try.f20, Option.getD_some, List.replicate, cC, aU, cZ, u8, tyr, fgr, hkr, execOp, opd, eN, opt, ofValue, eB, ofList, fM, cE, put, nth, aN, cN, bN, builtin, fW, fU, eF, cT, min2, max2, blr, eL, fD, und, sizeOf, cF, lenOf, bor, cQ, aV, cR, cD, intOp, bR, strOp, fB, dF, slK, dV, unOp, aY, branch, idx, aZ, cellsOf, eJ, eR, cel, alloc, cB, newRow, nilCheck, extract, eE, eG, bT, bX, cW, dI, aM, fieldAddr, field, part, index, bL, bF, equal, cM, bZ, dA, dE, dD, c8, List.getElem?_cons_succ, List.getElem?_cons_zero, List.append_eq, List.cons_append, List.nil_append, List.append_nil, List.length_cons, List.length_nil, Nat.reduceAdd, Nat.reduceSub, Nat.beq, Option.bind_some, nc0, nc1, Int.cast_ofNat_Int, cJ, cI, cH, ↓reduceIte, Int.reduceEq, Int.reduceLT, Int.reduceLE, Int.reduceNe, Int.reduceAdd, Int.reduceSub, Int.reduceMul, Int.reduceNeg, Int.reduceGT, Int.reduceGE, ge_iff_le, gt_iff_lt, not_true_eq_false, not_false_eq_true, decide_not, decide_true, decide_false, Bool.not_true, Bool.not_false, Bool.and_true, Bool.true_and, Bool.and_false, Bool.false_and, Bool.or_true, Bool.true_or, Bool.or_false, Bool.false_or, and_true, true_and, and_self, Nat.zero_add, Nat.add_zero, Int.toNat_zero, Nat.zero_mul, aS, beq_self_eq_true, bne_self_eq_false, reduceCtorEq]
 refine eU (VW h n) ?_
 simp only [cC, aU, cZ, u8, tyr, fgr, hkr, execOp, opd, eN, opt, ofValue, eB, ofList, fM, cE, put, nth, aN, cN, bN, builtin, fW, fU, eF, cT, min2, max2, blr, eL, fD, und, sizeOf, cF, lenOf, bor, cQ, aV, cR, cD, intOp, bR, strOp, fB, dF, slK, dV, unOp, aY, branch, idx, aZ, cellsOf, eJ, eR, cel, alloc, cB, newRow, nilCheck, extract, eE, eG, bT, bX, cW, dI, aM, fieldAddr, field, part, index, bL, bF, equal, cM, bZ, dA, dE, dD, c8, List.getElem?_cons_succ, List.getElem?_cons_zero, List.append_eq, List.cons_append, List.nil_append, List.append_nil, List.length_cons, List.length_nil, Nat.reduceAdd, Nat.reduceSub, Nat.beq, Option.bind_some, nc0, nc1, Int.cast_ofNat_Int, cJ, cI, cH, ↓reduceIte, Int.reduceEq, Int.reduceLT, Int.reduceLE, Int.reduceNe, Int.reduceAdd, Int.reduceSub, Int.reduceMul, Int.reduceNeg, Int.reduceGT, Int.reduceGE, ge_iff_le, gt_iff_lt, not_true_eq_false, not_false_eq_true, decide_not, decide_true, decide_false, Bool.not_true, Bool.not_false, Bool.and_true, Bool.true_and, Bool.and_false, Bool.false_and, Bool.or_true, Bool.true_or, Bool.or_false, Bool.false_or, and_true, true_and, and_self, Nat.zero_add, Nat.add_zero, Int.toNat_zero, Nat.zero_mul, aS, beq_self_eq_true, bne_self_eq_false, reduceCtorEq]
theorem TL : kM Try.prog 20 EK := by
 refine A3 (E := env) fun args s v s' h ho => ?_
 unfold EK at h
 split at h
 case h_2 => exact (aD h).elim
 rename_i a
 split at h
 case h_3 => exact (aD h).elim
 case h_2 =>
  obtain ⟨rfl, rfl⟩ := aC h
  exact ⟨fS.refl _, VY _ _⟩
 rename_i p off
 split at h
 case h_2 => exact (aD h).elim
 rename_i hoff
 have hoff := Nat.eq_of_beq_eq_true hoff
 subst hoff
 obtain ⟨b, s1, h1, h2⟩ := M.aK h
 obtain ⟨hg, e1⟩ := eC h1
 cases b with
 | row c t =>
  simp only [cW] at h2
  split at h2
  case h_2 => exact (aD h2).elim
  rename_i cs
  split at h2
  case h_2 => exact (aD h2).elim
  rename_i x lv
  split at h2
  case h_2 => exact (aD h2).elim
  rename_i xi xo
  split at h2
  ·obtain ⟨rfl, rfl⟩ := aC h2
   exact ⟨e1, VX p xi xo .aT 0 _ _ ⟨t, hg⟩ rfl rfl (by omega)⟩
  ·rename_i i o len cap sz
   split at h2
   ·rename_i hle
    obtain ⟨rfl, rfl⟩ := aC h2
    exact ⟨e1, VX p xi xo _ len _ _ ⟨t, hg⟩ rfl rfl (Nat.le_of_ble_eq_true hle)⟩
   ·exact (aD h2).elim
  ·exact (aD h2).elim
 | _ => exact (aD h2).elim
end Go.Am.Ytlgebaofkolkoaa.Ins
set_option maxRecDepth 100000
set_option linter.defProp false
namespace Go.Am.Ytlgebaofkolkoaa
open Go Go.Am Go.Proofs
noncomputable def ty2 : TE Try.prog := ⟨2, ⟨Try.t2.desc, 1, 8, .int .i64 (0)⟩, ⟨⟨Try.t2, _, rfl, rfl, rfl, rfl, rfl⟩, rfl, rfl, Try.underlying2⟩⟩
noncomputable def ty3 : TE Try.prog := ⟨3, ⟨Try.t3.desc, 1, 8, .int .i64 (0)⟩, ⟨⟨Try.t3, _, rfl, rfl, rfl, rfl, rfl⟩, rfl, rfl, Try.underlying3⟩⟩
noncomputable def ty4 : TE Try.prog := ⟨4, ⟨Try.t4.desc, 1, 1, .bool false⟩, ⟨⟨Try.t4, _, rfl, rfl, rfl, rfl, rfl⟩, rfl, rfl, Try.underlying4⟩⟩
noncomputable def ty5 : TE Try.prog := ⟨5, ⟨Try.t5.desc, 1, 1, .int .u8 (0)⟩, ⟨⟨Try.t5, _, rfl, rfl, rfl, rfl, rfl⟩, rfl, rfl, Try.underlying5⟩⟩
noncomputable def ty6 : TE Try.prog := ⟨6, ⟨Try.t5.desc, 1, 1, .int .u8 (0)⟩, ⟨⟨Try.t6, _, rfl, rfl, rfl, rfl, rfl⟩, rfl, rfl, Try.underlying6⟩⟩
noncomputable def ty7 : TE Try.prog := ⟨7, ⟨Try.t7.desc, 4, 24, .agg [.int .i64 (0), .int .i64 (0), .bool false, .int .u8 (0)]⟩, ⟨⟨Try.t7, _, rfl, rfl, rfl, rfl, rfl⟩, rfl, rfl, Try.underlying7⟩⟩
noncomputable def ty8 : TE Try.prog := ⟨8, ⟨Try.t7.desc, 4, 24, .agg [.int .i64 (0), .int .i64 (0), .bool false, .int .u8 (0)]⟩, ⟨⟨Try.t8, _, rfl, rfl, rfl, rfl, rfl⟩, rfl, rfl, Try.underlying8⟩⟩
noncomputable def ty9 : TE Try.prog := ⟨9, ⟨Try.t9.desc, 1, 16, .str []⟩, ⟨⟨Try.t9, _, rfl, rfl, rfl, rfl, rfl⟩, rfl, rfl, Try.underlying9⟩⟩
noncomputable def OM : TE Try.prog := ⟨24, ⟨Try.t24.desc, 32, 32, .agg (kG [(32, .int .u8 (0))])⟩, ⟨⟨Try.t24, _, rfl, rfl, rfl, rfl, rfl⟩, rfl, rfl, Try.underlying24⟩⟩
noncomputable def GG : TE Try.prog := ⟨25, ⟨Try.t24.desc, 32, 32, .agg (kG [(32, .int .u8 (0))])⟩, ⟨⟨Try.t25, _, rfl, rfl, rfl, rfl, rfl⟩, rfl, rfl, Try.underlying25⟩⟩
noncomputable def OL : TE Try.prog := ⟨26, ⟨Try.t26.desc, 1, 4, .int .u32 (0)⟩, ⟨⟨Try.t26, _, rfl, rfl, rfl, rfl, rfl⟩, rfl, rfl, Try.underlying26⟩⟩
noncomputable def OK : TE Try.prog := ⟨27, ⟨Try.t27.desc, 33, 36, .agg (kG [(32, .int .u8 (0)), (1, .int .u32 (0))])⟩, ⟨⟨Try.t27, _, rfl, rfl, rfl, rfl, rfl⟩, rfl, rfl, Try.underlying27⟩⟩
noncomputable def OJ : TE Try.prog := ⟨28, ⟨Try.t27.desc, 33, 36, .agg (kG [(32, .int .u8 (0)), (1, .int .u32 (0))])⟩, ⟨⟨Try.t28, _, rfl, rfl, rfl, rfl, rfl⟩, rfl, rfl, Try.underlying28⟩⟩
noncomputable def zX : TE Try.prog := ⟨29, ⟨Try.t29.desc, 1, 24, .aT⟩, ⟨⟨Try.t29, _, rfl, rfl, rfl, rfl, rfl⟩, rfl, rfl, Try.underlying29⟩⟩
noncomputable def OI : TE Try.prog := ⟨30, ⟨Try.t30.desc, 70, 128, .agg (kG [(32, .int .u8 (0)), (1, .int .u32 (0)), (2, .int .i64 (0)), (1, .aT), (1, .bool false), (1, .int .i64 (0)), (32, .int .u8 (0))])⟩, ⟨⟨Try.t30, _, rfl, rfl, rfl, rfl, rfl⟩, rfl, rfl, Try.underlying30⟩⟩
noncomputable def fA : TE Try.prog := ⟨31, ⟨Try.t30.desc, 70, 128, .agg (kG [(32, .int .u8 (0)), (1, .int .u32 (0)), (2, .int .i64 (0)), (1, .aT), (1, .bool false), (1, .int .i64 (0)), (32, .int .u8 (0))])⟩, ⟨⟨Try.t31, _, rfl, rfl, rfl, rfl, rfl⟩, rfl, rfl, Try.underlying31⟩⟩
noncomputable def XM : TE Try.prog := ⟨32, ⟨Try.t3.desc, 1, 8, .int .i64 (0)⟩, ⟨⟨Try.t32, _, rfl, rfl, rfl, rfl, rfl⟩, rfl, rfl, Try.underlying32⟩⟩
noncomputable def XL : TE Try.prog := ⟨35, ⟨Try.t35.desc, 1, 8, .dL⟩, ⟨⟨Try.t35, _, rfl, rfl, rfl, rfl, rfl⟩, rfl, rfl, Try.underlying35⟩⟩
noncomputable def XK : TE Try.prog := ⟨37, ⟨Try.t37.desc, 1, 0, .tup [.aT, .int .i64 (0)]⟩, ⟨⟨Try.t37, _, rfl, rfl, rfl, rfl, rfl⟩, rfl, rfl, Try.underlying37⟩⟩
noncomputable def OH : TE Try.prog := ⟨43, ⟨Try.t43.desc, 1, 24, .aT⟩, ⟨⟨Try.t43, _, rfl, rfl, rfl, rfl, rfl⟩, rfl, rfl, Try.underlying43⟩⟩
noncomputable def OG : TE Try.prog := ⟨44, ⟨Try.t44.desc, 1, 24, .aT⟩, ⟨⟨Try.t44, _, rfl, rfl, rfl, rfl, rfl⟩, rfl, rfl, Try.underlying44⟩⟩
noncomputable def OF : TE Try.prog := ⟨47, ⟨Try.t47.desc, 65, 68, .agg (kG [(32, .int .u8 (0)), (1, .int .u32 (0)), (32, .int .u8 (0))])⟩, ⟨⟨Try.t47, _, rfl, rfl, rfl, rfl, rfl⟩, rfl, rfl, Try.underlying47⟩⟩
noncomputable def OE : TE Try.prog := ⟨48, ⟨Try.t47.desc, 65, 68, .agg (kG [(32, .int .u8 (0)), (1, .int .u32 (0)), (32, .int .u8 (0))])⟩, ⟨⟨Try.t48, _, rfl, rfl, rfl, rfl, rfl⟩, rfl, rfl, Try.underlying48⟩⟩
noncomputable def XH : TE Try.prog := ⟨49, ⟨Try.t49.desc, 1, 8, .dL⟩, ⟨⟨Try.t49, _, rfl, rfl, rfl, rfl, rfl⟩, rfl, rfl, Try.underlying49⟩⟩
noncomputable def XG : TE Try.prog := ⟨51, ⟨Try.t51.desc, 1, 8, .dL⟩, ⟨⟨Try.t51, _, rfl, rfl, rfl, rfl, rfl⟩, rfl, rfl, Try.underlying51⟩⟩
noncomputable def XF : TE Try.prog := ⟨52, ⟨Try.t52.desc, 1, 8, .dL⟩, ⟨⟨Try.t52, _, rfl, rfl, rfl, rfl, rfl⟩, rfl, rfl, Try.underlying52⟩⟩
noncomputable def XE : TE Try.prog := ⟨53, ⟨Try.t53.desc, 1, 0, .tup [.agg [.int .u8 (0), .int .u8 (0), .int .u8 (0), .int .u8 (0), .int .u8 (0), .int .u8 (0), .int .u8 (0), .int .u8 (0), .int .u8 (0), .int .u8 (0), .int .u8 (0), .int .u8 (0), .int .u8 (0), .int .u8 (0), .int .u8 (0), .int .u8 (0), .int .u8 (0), .int .u8 (0), .int .u8 (0), .int .u8 (0), .int .u8 (0), .int .u8 (0), .int .u8 (0), .int .u8 (0), .int .u8 (0), .int .u8 (0), .int .u8 (0), .int .u8 (0), .int .u8 (0), .int .u8 (0), .int .u8 (0), .int .u8 (0)], .int .i64 (0)]⟩, ⟨⟨Try.t53, _, rfl, rfl, rfl, rfl, rfl⟩, rfl, rfl, Try.underlying53⟩⟩
noncomputable def XD : TE Try.prog := ⟨54, ⟨Try.t54.desc, 1, 8, .dL⟩, ⟨⟨Try.t54, _, rfl, rfl, rfl, rfl, rfl⟩, rfl, rfl, Try.underlying54⟩⟩
noncomputable def XC : TE Try.prog := ⟨55, ⟨Try.t55.desc, 1, 8, .dL⟩, ⟨⟨Try.t55, _, rfl, rfl, rfl, rfl, rfl⟩, rfl, rfl, Try.underlying55⟩⟩
noncomputable def OD : TE Try.prog := ⟨56, ⟨Try.t56.desc, 1, 8, .fC⟩, ⟨⟨Try.t56, _, rfl, rfl, rfl, rfl, rfl⟩, rfl, rfl, Try.underlying56⟩⟩
noncomputable def X7 : TE Try.prog := ⟨65, ⟨Try.t65.desc, 1, 24, .aT⟩, ⟨⟨Try.t65, _, rfl, rfl, rfl, rfl, rfl⟩, rfl, rfl, Try.underlying65⟩⟩
noncomputable def X6 : TE Try.prog := ⟨74, ⟨Try.t74.desc, 1, 8, .dL⟩, ⟨⟨Try.t74, _, rfl, rfl, rfl, rfl, rfl⟩, rfl, rfl, Try.underlying74⟩⟩
noncomputable def X5 : TE Try.prog := ⟨76, ⟨Try.t76.desc, 1, 1, .int .i8 (0)⟩, ⟨⟨Try.t76, _, rfl, rfl, rfl, rfl, rfl⟩, rfl, rfl, Try.underlying76⟩⟩
noncomputable def X4 : TE Try.prog := ⟨77, ⟨Try.t77.desc, 1, 8, .dL⟩, ⟨⟨Try.t77, _, rfl, rfl, rfl, rfl, rfl⟩, rfl, rfl, Try.underlying77⟩⟩
noncomputable def X3 : TE Try.prog := ⟨81, ⟨Try.t81.desc, 1, 24, .aT⟩, ⟨⟨Try.t81, _, rfl, rfl, rfl, rfl, rfl⟩, rfl, rfl, Try.underlying81⟩⟩
noncomputable def X2 : TE Try.prog := ⟨85, ⟨Try.t85.desc, 1, 8, .fC⟩, ⟨⟨Try.t85, _, rfl, rfl, rfl, rfl, rfl⟩, rfl, rfl, Try.underlying85⟩⟩
noncomputable def X1 : TE Try.prog := ⟨86, ⟨Try.t86.desc, 1, 24, .agg [.aT]⟩, ⟨⟨Try.t86, _, rfl, rfl, rfl, rfl, rfl⟩, rfl, rfl, Try.underlying86⟩⟩
noncomputable def X0 : TE Try.prog := ⟨87, ⟨Try.t86.desc, 1, 24, .agg [.aT]⟩, ⟨⟨Try.t87, _, rfl, rfl, rfl, rfl, rfl⟩, rfl, rfl, Try.underlying87⟩⟩
noncomputable def WZ : TE Try.prog := ⟨90, ⟨Try.t90.desc, 72, 144, .agg (kG [(1, .int .i64 (0)), (32, .int .u8 (0)), (1, .int .u32 (0)), (2, .int .i64 (0)), (1, .aT), (1, .bool false), (1, .int .i64 (0)), (32, .int .u8 (0)), (1, .int .i64 (0))])⟩, ⟨⟨Try.t90, _, rfl, rfl, rfl, rfl, rfl⟩, rfl, rfl, Try.underlying90⟩⟩
noncomputable def WY : TE Try.prog := ⟨91, ⟨Try.t90.desc, 72, 144, .agg (kG [(1, .int .i64 (0)), (32, .int .u8 (0)), (1, .int .u32 (0)), (2, .int .i64 (0)), (1, .aT), (1, .bool false), (1, .int .i64 (0)), (32, .int .u8 (0)), (1, .int .i64 (0))])⟩, ⟨⟨Try.t91, _, rfl, rfl, rfl, rfl, rfl⟩, rfl, rfl, Try.underlying91⟩⟩
noncomputable def WX : TE Try.prog := ⟨92, ⟨Try.t92.desc, 1, 8, .dL⟩, ⟨⟨Try.t92, _, rfl, rfl, rfl, rfl, rfl⟩, rfl, rfl, Try.underlying92⟩⟩
noncomputable def OC : TE Try.prog := ⟨95, ⟨Try.t95.desc, 1, 24, .aT⟩, ⟨⟨Try.t95, _, rfl, rfl, rfl, rfl, rfl⟩, rfl, rfl, Try.underlying95⟩⟩
noncomputable def OB : TE Try.prog := ⟨96, ⟨Try.t96.desc, 1, 8, .dL⟩, ⟨⟨Try.t96, _, rfl, rfl, rfl, rfl, rfl⟩, rfl, rfl, Try.underlying96⟩⟩
noncomputable def OA : TE Try.prog := ⟨97, ⟨Try.t97.desc, 2, 32, .agg [.aT, .dL]⟩, ⟨⟨Try.t97, _, rfl, rfl, rfl, rfl, rfl⟩, rfl, rfl, Try.underlying97⟩⟩
noncomputable def O0 : TE Try.prog := ⟨98, ⟨Try.t97.desc, 2, 32, .agg [.aT, .dL]⟩, ⟨⟨Try.t98, _, rfl, rfl, rfl, rfl, rfl⟩, rfl, rfl, Try.underlying98⟩⟩
noncomputable def NZ : TE Try.prog := ⟨99, ⟨Try.t99.desc, 5, 72, .agg [.bool false, .aT, .dL, .aT, .dL]⟩, ⟨⟨Try.t99, _, rfl, rfl, rfl, rfl, rfl⟩, rfl, rfl, Try.underlying99⟩⟩
noncomputable def GH : TE Try.prog := ⟨100, ⟨Try.t99.desc, 5, 72, .agg [.bool false, .aT, .dL, .aT, .dL]⟩, ⟨⟨Try.t100, _, rfl, rfl, rfl, rfl, rfl⟩, rfl, rfl, Try.underlying100⟩⟩
noncomputable def T3 : TE Try.prog := ⟨106, ⟨Try.t106.desc, 1, 8, .dL⟩, ⟨⟨Try.t106, _, rfl, rfl, rfl, rfl, rfl⟩, rfl, rfl, Try.underlying106⟩⟩
noncomputable def T2 : TE Try.prog := ⟨109, ⟨Try.t109.desc, 1, 8, .dL⟩, ⟨⟨Try.t109, _, rfl, rfl, rfl, rfl, rfl⟩, rfl, rfl, Try.underlying109⟩⟩
noncomputable def T1 : TE Try.prog := ⟨110, ⟨Try.t110.desc, 1, 8, .dL⟩, ⟨⟨Try.t110, _, rfl, rfl, rfl, rfl, rfl⟩, rfl, rfl, Try.underlying110⟩⟩
noncomputable def T0 : TE Try.prog := ⟨114, ⟨Try.t114.desc, 1, 8, .dL⟩, ⟨⟨Try.t114, _, rfl, rfl, rfl, rfl, rfl⟩, rfl, rfl, Try.underlying114⟩⟩
noncomputable def nC : TE Try.prog := ⟨128, ⟨Try.t128.desc, 1, 8, .fC⟩, ⟨⟨Try.t128, _, rfl, rfl, rfl, rfl, rfl⟩, rfl, rfl, Try.underlying128⟩⟩
noncomputable def SZ : TE Try.prog := ⟨129, ⟨Try.t129.desc, 1, 8, .dL⟩, ⟨⟨Try.t129, _, rfl, rfl, rfl, rfl, rfl⟩, rfl, rfl, Try.underlying129⟩⟩
noncomputable def SY : TE Try.prog := ⟨134, ⟨Try.t134.desc, 1, 8, .dL⟩, ⟨⟨Try.t134, _, rfl, rfl, rfl, rfl, rfl⟩, rfl, rfl, Try.underlying134⟩⟩
noncomputable def SX : TE Try.prog := ⟨135, ⟨Try.t134.desc, 1, 8, .dL⟩, ⟨⟨Try.t135, _, rfl, rfl, rfl, rfl, rfl⟩, rfl, rfl, Try.underlying135⟩⟩
noncomputable def SV : TE Try.prog := ⟨140, ⟨Try.t140.desc, 1, 8, .dL⟩, ⟨⟨Try.t140, _, rfl, rfl, rfl, rfl, rfl⟩, rfl, rfl, Try.underlying140⟩⟩
noncomputable def SU : TE Try.prog := ⟨147, ⟨Try.t147.desc, 1, 24, .aT⟩, ⟨⟨Try.t147, _, rfl, rfl, rfl, rfl, rfl⟩, rfl, rfl, Try.underlying147⟩⟩
noncomputable def SS : TE Try.prog := ⟨156, ⟨Try.t156.desc, 1, 8, .fC⟩, ⟨⟨Try.t156, _, rfl, rfl, rfl, rfl, rfl⟩, rfl, rfl, Try.underlying156⟩⟩
noncomputable def SQ : TE Try.prog := ⟨166, ⟨Try.t166.desc, 1, 8, .int .u64 (0)⟩, ⟨⟨Try.t166, _, rfl, rfl, rfl, rfl, rfl⟩, rfl, rfl, Try.underlying166⟩⟩
noncomputable def fu8 : FE Try.prog := ⟨8, ⟨Try.f8.body.getD .skip, 177, [.tmp 4], some (rle true [2, 2, 16, 1, 1, 4, 3, 12, 1, 105, 1, 29])⟩, ⟨⟨Try.f8, Try.func8, rfl, rfl, rfl⟩, Try.call8⟩⟩
noncomputable def RT : FE Try.prog := ⟨30, ⟨Try.f30.body.getD .skip, 21, [.tmp 2], some (rle true [1, 1, 2, 1, 3, 8, 1, 4])⟩, ⟨⟨Try.f30, Try.func30, rfl, rfl, rfl⟩, Try.call30⟩⟩
noncomputable def RS : FE Try.prog := ⟨32, ⟨Try.f32.body.getD .skip, 11, [.tmp 2], some (rle true [1, 1, 1, 1, 1, 6])⟩, ⟨⟨Try.f32, Try.func32, rfl, rfl, rfl⟩, Try.call32⟩⟩
noncomputable def RR : FE Try.prog := ⟨33, ⟨Try.f33.body.getD .skip, 49, [.tmp 4], some (rle true [2, 1, 4, 2, 1, 39])⟩, ⟨⟨Try.f33, Try.func33, rfl, rfl, rfl⟩, Try.call33⟩⟩
noncomputable def RQ : FE Try.prog := ⟨34, ⟨Try.f34.body.getD .skip, 26, [.tmp 6], some (rle true [3, 1, 1, 1, 2, 1, 1, 5, 1, 10])⟩, ⟨⟨Try.f34, Try.func34, rfl, rfl, rfl⟩, Try.call34⟩⟩
noncomputable def MH : FE Try.prog := ⟨35, ⟨Try.f35.body.getD .skip, 29, [.tmp 4], some (rle true [2, 2, 3, 4, 1, 3, 1, 12, 1])⟩, ⟨⟨Try.f35, Try.func35, rfl, rfl, rfl⟩, Try.call35⟩⟩
noncomputable def RM : FE Try.prog := ⟨36, ⟨Try.f36.body.getD .skip, 48, [.tmp 10], some (rle true [5, 1, 1, 2, 4, 1, 1, 21, 1, 11])⟩, ⟨⟨Try.f36, Try.func36, rfl, rfl, rfl⟩, Try.call36⟩⟩
noncomputable def RK : FE Try.prog := ⟨37, ⟨Try.f37.body.getD .skip, 28, [.cell 6 31, .tmp 7], some (rle true [3, 1, 6, 2, 2, 5, 1, 2, 1, 5])⟩, ⟨⟨Try.f37, Try.func37, rfl, rfl, rfl⟩, Try.call37⟩⟩
noncomputable def RJ : FE Try.prog := ⟨38, ⟨Try.f38.body.getD .skip, 34, [.tmp 6], some (rle true [3, 1, 1, 1, 3, 1, 1, 12, 1, 10])⟩, ⟨⟨Try.f38, Try.func38, rfl, rfl, rfl⟩, Try.call38⟩⟩
noncomputable def RH : FE Try.prog := ⟨39, ⟨Try.f39.body.getD .skip, 14, [.tmp 4], some (rle true [2, 1, 2, 1, 1, 7])⟩, ⟨⟨Try.f39, Try.func39, rfl, rfl, rfl⟩, Try.call39⟩⟩
noncomputable def RG : FE Try.prog := ⟨40, ⟨Try.f40.body.getD .skip, 13, [.tmp 0], some (rle true [2, 11])⟩, ⟨⟨Try.f40, Try.func40, rfl, rfl, rfl⟩, Try.call40⟩⟩
noncomputable def RE : FE Try.prog := ⟨41, ⟨Try.f41.body.getD .skip, 28, [.tmp 2], some (rle true [1, 1, 2, 1, 1, 22])⟩, ⟨⟨Try.f41, Try.func41, rfl, rfl, rfl⟩, Try.call41⟩⟩
noncomputable def RD : FE Try.prog := ⟨42, ⟨Try.f42.body.getD .skip, 57, [.tmp 4], some (rle true [6, 51])⟩, ⟨⟨Try.f42, Try.func42, rfl, rfl, rfl⟩, Try.call42⟩⟩
noncomputable def RC : FE Try.prog := ⟨43, ⟨Try.f43.body.getD .skip, 40, [.tmp 6], some (rle true [3, 1, 5, 1, 1, 7, 2, 6, 1, 4, 1, 8])⟩, ⟨⟨Try.f43, Try.func43, rfl, rfl, rfl⟩, Try.call43⟩⟩
noncomputable def RA : FE Try.prog := ⟨44, ⟨Try.f44.body.getD .skip, 37, [.tmp 4], some (rle true [2, 2, 2, 1, 1, 1, 1, 5, 4, 6, 1, 11])⟩, ⟨⟨Try.f44, Try.func44, rfl, rfl, rfl⟩, Try.call44⟩⟩
noncomputable def R9 : FE Try.prog := ⟨45, ⟨Try.f45.body.getD .skip, 24, [.tmp 4], some (rle true [6, 6, 1, 5, 1, 4, 1])⟩, ⟨⟨Try.f45, Try.func45, rfl, rfl, rfl⟩, Try.call45⟩⟩
noncomputable def R8 : FE Try.prog := ⟨46, ⟨Try.f46.body.getD .skip, 18, [.tmp 4], some (rle true [3, 1, 1, 3, 1, 9])⟩, ⟨⟨Try.f46, Try.func46, rfl, rfl, rfl⟩, Try.call46⟩⟩
noncomputable def R7 : FE Try.prog := ⟨47, ⟨Try.f47.body.getD .skip, 169, [.tmp 6, .tmp 7], some (rle true [3, 2, 8, 1, 1, 1, 1, 3, 2, 16, 3, 11, 1, 23, 1, 15, 1, 15, 1, 4, 4, 34, 4, 14])⟩, ⟨⟨Try.f47, Try.func47, rfl, rfl, rfl⟩, Try.call47⟩⟩
noncomputable def R6 : FE Try.prog := ⟨48, ⟨Try.f48.body.getD .skip, 33, [.cell 6 31, .tmp 7], some (rle true [3, 1, 1, 1, 5, 7, 1, 8, 1, 5])⟩, ⟨⟨Try.f48, Try.func48, rfl, rfl, rfl⟩, Try.call48⟩⟩
noncomputable def R5 : FE Try.prog := ⟨49, ⟨Try.f49.body.getD .skip, 19, [.tmp 4], some (rle true [2, 1, 4, 2, 2, 8])⟩, ⟨⟨Try.f49, Try.func49, rfl, rfl, rfl⟩, Try.call49⟩⟩
noncomputable def R4 : FE Try.prog := ⟨50, ⟨Try.f50.body.getD .skip, 11, [.tmp 2], some (rle true [1, 1, 1, 1, 1, 6])⟩, ⟨⟨Try.f50, Try.func50, rfl, rfl, rfl⟩, Try.call50⟩⟩
noncomputable def R3 : FE Try.prog := ⟨51, ⟨Try.f51.body.getD .skip, 38, [.tmp 4], some (rle true [2, 1, 4, 6, 1, 12, 1, 11])⟩, ⟨⟨Try.f51, Try.func51, rfl, rfl, rfl⟩, Try.call51⟩⟩
noncomputable def R2 : FE Try.prog := ⟨52, ⟨Try.f52.body.getD .skip, 38, [.tmp 4], some (rle true [2, 2, 4, 6, 1, 11, 1, 11])⟩, ⟨⟨Try.f52, Try.func52, rfl, rfl, rfl⟩, Try.call52⟩⟩
noncomputable def R1 : FE Try.prog := ⟨53, ⟨Try.f53.body.getD .skip, 36, [.tmp 6], some (rle true [3, 3, 4, 6, 1, 10, 1, 8])⟩, ⟨⟨Try.f53, Try.func53, rfl, rfl, rfl⟩, Try.call53⟩⟩
noncomputable def R0 : FE Try.prog := ⟨54, ⟨Try.f54.body.getD .skip, 28, [.tmp 4], some (rle true [2, 2, 2, 4, 1, 3, 1, 12, 1])⟩, ⟨⟨Try.f54, Try.func54, rfl, rfl, rfl⟩, Try.call54⟩⟩
noncomputable def QZ : FE Try.prog := ⟨55, ⟨Try.f55.body.getD .skip, 76, [.tmp 4], some (rle true [2, 2, 8, 6, 1, 5, 1, 13, 1, 17, 1, 19])⟩, ⟨⟨Try.f55, Try.func55, rfl, rfl, rfl⟩, Try.call55⟩⟩
noncomputable def QY : FE Try.prog := ⟨56, ⟨Try.f56.body.getD .skip, 30, [], some (rle true [1, 1, 2, 1, 3, 6, 3, 13])⟩, ⟨⟨Try.f56, Try.func56, rfl, rfl, rfl⟩, Try.call56⟩⟩
noncomputable def J0 : FE Try.prog := ⟨63, ⟨Try.f63.body.getD .skip, 18, [.tmp 2], some (rle true [1, 1, 2, 1, 5, 4, 1, 3])⟩, ⟨⟨Try.f63, Try.func63, rfl, rfl, rfl⟩, Try.call63⟩⟩
noncomputable def QX : FE Try.prog := ⟨73, ⟨Try.f73.body.getD .skip, 12, [.tmp 2], some (rle true [1, 1, 1, 9])⟩, ⟨⟨Try.f73, Try.func73, rfl, rfl, rfl⟩, Try.call73⟩⟩
noncomputable def QW : FE Try.prog := ⟨74, ⟨Try.f74.body.getD .skip, 26, [.tmp 4], some (rle true [2, 2, 2, 1, 5, 4, 1, 9])⟩, ⟨⟨Try.f74, Try.func74, rfl, rfl, rfl⟩, Try.call74⟩⟩
noncomputable def QV : FE Try.prog := ⟨75, ⟨Try.f75.body.getD .skip, 3, [.tmp 2], some (rle true [0, 2, 1])⟩, ⟨⟨Try.f75, Try.func75, rfl, rfl, rfl⟩, Try.call75⟩⟩
noncomputable def QU : FE Try.prog := ⟨76, ⟨Try.f76.body.getD .skip, 30, [.tmp 6], some (rle true [3, 1, 1, 1, 3, 12, 1, 8])⟩, ⟨⟨Try.f76, Try.func76, rfl, rfl, rfl⟩, Try.call76⟩⟩
noncomputable def QT : FE Try.prog := ⟨77, ⟨Try.f77.body.getD .skip, 8, [.cell 2 31], some (rle true [3, 5])⟩, ⟨⟨Try.f77, Try.func77, rfl, rfl, rfl⟩, Try.call77⟩⟩
noncomputable def QS : FE Try.prog := ⟨78, ⟨Try.f78.body.getD .skip, 23, [], some (rle true [2, 2, 1, 18])⟩, ⟨⟨Try.f78, Try.func78, rfl, rfl, rfl⟩, Try.call78⟩⟩
noncomputable def QR : FE Try.prog := ⟨79, ⟨Try.f79.body.getD .skip, 23, [], some (rle true [2, 2, 1, 18])⟩, ⟨⟨Try.f79, Try.func79, rfl, rfl, rfl⟩, Try.call79⟩⟩
noncomputable def QQ : FE Try.prog := ⟨80, ⟨Try.f80.body.getD .skip, 24, [], some (rle true [3, 2, 1, 18])⟩, ⟨⟨Try.f80, Try.func80, rfl, rfl, rfl⟩, Try.call80⟩⟩
noncomputable def QP : FE Try.prog := ⟨81, ⟨Try.f81.body.getD .skip, 6, [.tmp 4], some (rle true [5, 1])⟩, ⟨⟨Try.f81, Try.func81, rfl, rfl, rfl⟩, Try.call81⟩⟩
noncomputable def QO : FE Try.prog := ⟨82, ⟨Try.f82.body.getD .skip, 20, [.tmp 4], some (rle true [3, 1, 1, 15])⟩, ⟨⟨Try.f82, Try.func82, rfl, rfl, rfl⟩, Try.call82⟩⟩
noncomputable def QN : FE Try.prog := ⟨83, ⟨Try.f83.body.getD .skip, 9, [.tmp 3], some (rle true [2, 1, 1, 5])⟩, ⟨⟨Try.f83, Try.func83, rfl, rfl, rfl⟩, Try.call83⟩⟩
noncomputable def QM : FE Try.prog := ⟨84, ⟨Try.f84.body.getD .skip, 12, [.tmp 4], some (rle true [2, 2, 1, 7])⟩, ⟨⟨Try.f84, Try.func84, rfl, rfl, rfl⟩, Try.call84⟩⟩
noncomputable def QL : FE Try.prog := ⟨85, ⟨Try.f85.body.getD .skip, 19, [.tmp 4], some (rle true [2, 2, 1, 14])⟩, ⟨⟨Try.f85, Try.func85, rfl, rfl, rfl⟩, Try.call85⟩⟩
noncomputable def QK : FE Try.prog := ⟨86, ⟨Try.f86.body.getD .skip, 8, [.tmp 2], some (rle true [1, 1, 1, 1, 1, 3])⟩, ⟨⟨Try.f86, Try.func86, rfl, rfl, rfl⟩, Try.call86⟩⟩
noncomputable def QJ : FE Try.prog := ⟨87, ⟨Try.f87.body.getD .skip, 38, [.tmp 4], some (rle true [6, 1, 1, 10, 1, 8, 1, 4, 1, 4, 1])⟩, ⟨⟨Try.f87, Try.func87, rfl, rfl, rfl⟩, Try.call87⟩⟩
noncomputable def QI : FE Try.prog := ⟨88, ⟨Try.f88.body.getD .skip, 6, [.tmp 4], some (rle true [5, 1])⟩, ⟨⟨Try.f88, Try.func88, rfl, rfl, rfl⟩, Try.call88⟩⟩
noncomputable def QH : FE Try.prog := ⟨89, ⟨Try.f89.body.getD .skip, 10, [.tmp 4], some (rle true [2, 2, 1, 5])⟩, ⟨⟨Try.f89, Try.func89, rfl, rfl, rfl⟩, Try.call89⟩⟩
noncomputable def QG : FE Try.prog := ⟨90, ⟨Try.f90.body.getD .skip, 8, [.tmp 2], some (rle true [1, 1, 1, 1, 1, 3])⟩, ⟨⟨Try.f90, Try.func90, rfl, rfl, rfl⟩, Try.call90⟩⟩
noncomputable def MF : FE Try.prog := ⟨91, ⟨Try.f91.body.getD .skip, 66, [.tmp 4], some (rle true [2, 2, 4, 2, 1, 4, 1, 12, 1, 6, 1, 13, 1, 16])⟩, ⟨⟨Try.f91, Try.func91, rfl, rfl, rfl⟩, Try.call91⟩⟩
noncomputable def QF : FE Try.prog := ⟨92, ⟨Try.f92.body.getD .skip, 90, [.tmp 4], some (rle true [2, 1, 6, 29, 1, 10, 1, 15, 1, 15, 1, 8])⟩, ⟨⟨Try.f92, Try.func92, rfl, rfl, rfl⟩, Try.call92⟩⟩
noncomputable def QD : FE Try.prog := ⟨93, ⟨Try.f93.body.getD .skip, 54, [.tmp 10], some (rle true [5, 1, 1, 2, 3, 25, 1, 16])⟩, ⟨⟨Try.f93, Try.func93, rfl, rfl, rfl⟩, Try.call93⟩⟩
noncomputable def QC : FE Try.prog := ⟨94, ⟨Try.f94.body.getD .skip, 40, [.tmp 6], some (rle true [3, 1, 1, 1, 2, 16, 1, 15])⟩, ⟨⟨Try.f94, Try.func94, rfl, rfl, rfl⟩, Try.call94⟩⟩
noncomputable def QB : FE Try.prog := ⟨95, ⟨Try.f95.body.getD .skip, 42, [.tmp 6], some (rle true [3, 1, 1, 1, 4, 5, 1, 6, 1, 4, 1, 14])⟩, ⟨⟨Try.f95, Try.func95, rfl, rfl, rfl⟩, Try.call95⟩⟩
noncomputable def JC : FE Try.prog := ⟨103, ⟨Try.f103.body.getD .skip, 18, [.tmp 4, .tmp 5], some (rle true [2, 2, 2, 12])⟩, ⟨⟨Try.f103, Try.func103, rfl, rfl, rfl⟩, Try.call103⟩⟩
noncomputable def JB : FE Try.prog := ⟨105, ⟨Try.f105.body.getD .skip, 33, [.tmp 6], some (rle true [3, 3, 2, 8, 1, 16])⟩, ⟨⟨Try.f105, Try.func105, rfl, rfl, rfl⟩, Try.call105⟩⟩
noncomputable def JA : FE Try.prog := ⟨106, ⟨Try.f106.body.getD .skip, 27, [], some (rle true [5, 1, 1, 6, 2, 11, 1])⟩, ⟨⟨Try.f106, Try.func106, rfl, rfl, rfl⟩, Try.call106⟩⟩
noncomputable def J9 : FE Try.prog := ⟨107, ⟨Try.f107.body.getD .skip, 17, [.tmp 4], some (rle true [5, 12])⟩, ⟨⟨Try.f107, Try.func107, rfl, rfl, rfl⟩, Try.call107⟩⟩
noncomputable def J7 : FE Try.prog := ⟨109, ⟨Try.f109.body.getD .skip, 30, [], some (rle true [3, 1, 1, 2, 1, 11, 4, 5, 1, 1])⟩, ⟨⟨Try.f109, Try.func109, rfl, rfl, rfl⟩, Try.call109⟩⟩
noncomputable def J6 : FE Try.prog := ⟨110, ⟨Try.f110.body.getD .skip, 41, [.tmp 6], some (rle true [3, 1, 1, 1, 2, 6, 1, 24, 1, 1])⟩, ⟨⟨Try.f110, Try.func110, rfl, rfl, rfl⟩, Try.call110⟩⟩
noncomputable def J5 : FE Try.prog := ⟨111, ⟨Try.f111.body.getD .skip, 7, [.tmp 2], some (rle true [1, 1, 2, 3])⟩, ⟨⟨Try.f111, Try.func111, rfl, rfl, rfl⟩, Try.call111⟩⟩
noncomputable def J4 : FE Try.prog := ⟨114, ⟨Try.f114.body.getD .skip, 49, [.tmp 6, .tmp 7], some (rle true [3, 3, 6, 5, 1, 13, 1, 17])⟩, ⟨⟨Try.f114, Try.func114, rfl, rfl, rfl⟩, Try.call114⟩⟩
noncomputable def NN : FE Try.prog := ⟨116, ⟨Try.f116.body.getD .skip, 10, [], some (rle true [2, 8])⟩, ⟨⟨Try.f116, Try.func116, rfl, rfl, rfl⟩, Try.call116⟩⟩
noncomputable def J3 : FE Try.prog := ⟨117, ⟨Try.f117.body.getD .skip, 17, [.tmp 4], some (rle true [5, 12])⟩, ⟨⟨Try.f117, Try.func117, rfl, rfl, rfl⟩, Try.call117⟩⟩
noncomputable def E6 : FE Try.prog := ⟨118, ⟨Try.f118.body.getD .skip, 20, [.tmp 4], some (rle true [2, 2, 3, 4, 3, 2, 1, 2, 1])⟩, ⟨⟨Try.f118, Try.func118, rfl, rfl, rfl⟩, Try.call118⟩⟩
noncomputable def NM : FE Try.prog := ⟨120, ⟨Try.f120.body.getD .skip, 14, [], some (rle true [2, 12])⟩, ⟨⟨Try.f120, Try.func120, rfl, rfl, rfl⟩, Try.call120⟩⟩
noncomputable def E5 : FE Try.prog := ⟨121, ⟨Try.f121.body.getD .skip, 20, [.tmp 4], some (rle true [2, 2, 3, 4, 3, 2, 1, 2, 1])⟩, ⟨⟨Try.f121, Try.func121, rfl, rfl, rfl⟩, Try.call121⟩⟩
noncomputable def J2 : FE Try.prog := ⟨122, ⟨Try.f122.body.getD .skip, 6, [.tmp 2], some (rle true [1, 1, 1, 3])⟩, ⟨⟨Try.f122, Try.func122, rfl, rfl, rfl⟩, Try.call122⟩⟩
noncomputable def NL : FE Try.prog := ⟨123, ⟨Try.f123.body.getD .skip, 28, [], some (rle true [1, 1, 2, 5, 1, 18])⟩, ⟨⟨Try.f123, Try.func123, rfl, rfl, rfl⟩, Try.call123⟩⟩
noncomputable def J1 : FE Try.prog := ⟨124, ⟨Try.f124.body.getD .skip, 6, [.tmp 2], some (rle true [1, 1, 1, 3])⟩, ⟨⟨Try.f124, Try.func124, rfl, rfl, rfl⟩, Try.call124⟩⟩
noncomputable def YJ : rU Try.prog := ⟨20, Ins.EK, Ins.TL⟩
noncomputable def UA : rU Try.prog := ⟨104, (sJ 128 nC.i), L9 Ins.KZ rfl⟩
noncomputable def U9 : rU Try.prog := ⟨108, dB, Ins.OY⟩
noncomputable def IV : rU Try.prog := ⟨112, dB, lM Try.func112 (by kernel_rfl) (by kernel_rfl) (by kernel_rfl) (by kernel_rfl)⟩
noncomputable def IU : rU Try.prog := ⟨115, (gS 128), qS (tS := 95) (tR := 4) (e := 128) (size := 1) Try.func115 (by kernel_rfl) (by kernel_rfl) (by kernel_rfl) (by kernel_rfl) Try.underlying95 (fun w => nC.ok.dO) (fun h => TypeDesc.noConfusion (Option.some.inj (Try.underlying128.symm.trans h)))⟩
noncomputable def IT : rU Try.prog := ⟨119, dB, lM Try.func119 (by kernel_rfl) (by kernel_rfl) (by kernel_rfl) (by kernel_rfl)⟩
noncomputable def eqs : List (QE Try.prog) := [⟨25, by kernel_rfl, by kernel_rfl⟩, ⟨28, by kernel_rfl, by kernel_rfl⟩]
noncomputable def env : Env := { P := Try.prog, DZ := by kernel_rfl, types := (.node 56 (.node 30 (.node 9 (.node 5 (.node 3 (.leaf ty2) (.node 4 (.leaf ty3) (.leaf ty4))) (.node 7 (.node 6 (.leaf ty5) (.leaf ty6)) (.node 8 (.leaf ty7) (.leaf ty8)))) (.node 26 (.node 24 (.leaf ty9) (.node 25 (.leaf OM) (.leaf GG))) (.node 28 (.node 27 (.leaf OL) (.leaf OK)) (.node 29 (.leaf OJ) (.leaf zX))))) (.node 47 (.node 35 (.node 31 (.leaf OI) (.node 32 (.leaf fA) (.leaf XM))) (.node 43 (.node 37 (.leaf XL) (.leaf XK)) (.node 44 (.leaf OH) (.leaf OG)))) (.node 52 (.node 49 (.node 48 (.leaf OF) (.leaf OE)) (.node 51 (.leaf XH) (.leaf XG))) (.node 54 (.node 53 (.leaf XF) (.leaf XE)) (.node 55 (.leaf XD) (.leaf XC)))))) (.node 98 (.node 86 (.node 76 (.node 65 (.leaf OD) (.node 74 (.leaf X7) (.leaf X6))) (.node 81 (.node 77 (.leaf X5) (.leaf X4)) (.node 85 (.leaf X3) (.leaf X2)))) (.node 92 (.node 90 (.node 87 (.leaf X1) (.leaf X0)) (.node 91 (.leaf WZ) (.leaf WY))) (.node 96 (.node 95 (.leaf WX) (.leaf OC)) (.node 97 (.leaf OB) (.leaf OA))))) (.node 128 (.node 106 (.node 99 (.leaf O0) (.node 100 (.leaf NZ) (.leaf GH))) (.node 110 (.node 109 (.leaf T3) (.leaf T2)) (.node 114 (.leaf T1) (.leaf T0)))) (.node 140 (.node 134 (.node 129 (.leaf nC) (.leaf SZ)) (.node 135 (.leaf SY) (.leaf SX))) (.node 156 (.node 147 (.leaf SV) (.leaf SU)) (.node 166 (.leaf SS) (.leaf SQ))))))), funcs := (.node 78 (.node 46 (.node 38 (.node 34 (.node 32 (.node 30 (.leaf fu8) (.leaf RT)) (.node 33 (.leaf RS) (.leaf RR))) (.node 36 (.node 35 (.leaf RQ) (.leaf MH)) (.node 37 (.leaf RM) (.leaf RK)))) (.node 42 (.node 40 (.node 39 (.leaf RJ) (.leaf RH)) (.node 41 (.leaf RG) (.leaf RE))) (.node 44 (.node 43 (.leaf RD) (.leaf RC)) (.node 45 (.leaf RA) (.leaf R9))))) (.node 54 (.node 50 (.node 48 (.node 47 (.leaf R8) (.leaf R7)) (.node 49 (.leaf R6) (.leaf R5))) (.node 52 (.node 51 (.leaf R4) (.leaf R3)) (.node 53 (.leaf R2) (.leaf R1)))) (.node 73 (.node 56 (.node 55 (.leaf R0) (.leaf QZ)) (.node 63 (.leaf QY) (.leaf J0))) (.node 75 (.node 74 (.leaf QX) (.leaf QW)) (.node 76 (.leaf QV) (.node 77 (.leaf QU) (.leaf QT))))))) (.node 95 (.node 86 (.node 82 (.node 80 (.node 79 (.leaf QS) (.leaf QR)) (.node 81 (.leaf QQ) (.leaf QP))) (.node 84 (.node 83 (.leaf QO) (.leaf QN)) (.node 85 (.leaf QM) (.leaf QL)))) (.node 90 (.node 88 (.node 87 (.leaf QK) (.leaf QJ)) (.node 89 (.leaf QI) (.leaf QH))) (.node 92 (.node 91 (.leaf QG) (.leaf MF)) (.node 93 (.leaf QF) (.node 94 (.leaf QD) (.leaf QC)))))) (.node 114 (.node 107 (.node 105 (.node 103 (.leaf QB) (.leaf JC)) (.node 106 (.leaf JB) (.leaf JA))) (.node 110 (.node 109 (.leaf J9) (.leaf J7)) (.node 111 (.leaf J6) (.leaf J5)))) (.node 120 (.node 117 (.node 116 (.leaf J4) (.leaf NN)) (.node 118 (.leaf J3) (.leaf E6))) (.node 122 (.node 121 (.leaf NM) (.leaf E5)) (.node 123 (.leaf J2) (.node 124 (.leaf NL) (.leaf J1)))))))), uU := [YJ, UA, U9, IV, IU, IT], eqs := eqs, yG := [Ins.LH, Ins.GW] }
theorem HK (f : Nat) (h : (env.uU.all fun x => !(x.f.beq f)) = true) : ∀ args : List aA, iC env (aX env) f args = bO env (aX env) f args := fun _ => CV f h
theorem NB (f : Nat) (h : (env.qK.all fun x => !(x.fn.beq f)) = true) : ∀ k, nV env.qK f k = true := I1 f h
abbrev FI (k : Nat) (f : FE Try.prog) : Prop := (env.funcs.find k).i = f.i
abbrev FF (k : Nat) : Prop := (env.funcs.find k).f.beq k = true
theorem ti2 : ti env 2 = M.pure ⟨Go.TypeDesc.int (Go.IntKind.i64), 1, 8, .int .i64 (0)⟩ := rfl
theorem ti3 : ti env 3 = M.pure ⟨Go.TypeDesc.int (Go.IntKind.i64), 1, 8, .int .i64 (0)⟩ := rfl
theorem ti4 : ti env 4 = M.pure ⟨Go.TypeDesc.bool, 1, 1, .bool false⟩ := rfl
theorem ti5 : ti env 5 = M.pure ⟨Go.TypeDesc.int (Go.IntKind.u8), 1, 1, .int .u8 (0)⟩ := rfl
theorem ti6 : ti env 6 = M.pure ⟨Go.TypeDesc.int (Go.IntKind.u8), 1, 1, .int .u8 (0)⟩ := rfl
theorem ti7 : ti env 7 = M.pure ⟨Go.TypeDesc.struct #[⟨"x", 2, 0, false, "", "runtime", 0⟩, ⟨"y", 3, 1, false, "", "runtime", 8⟩, ⟨"signed", 4, 2, false, "", "runtime", 16⟩, ⟨"code", 6, 3, false, "", "runtime", 17⟩], 4, 24, .agg [.int .i64 (0), .int .i64 (0), .bool false, .int .u8 (0)]⟩ := rfl
theorem ti8 : ti env 8 = M.pure ⟨Go.TypeDesc.struct #[⟨"x", 2, 0, false, "", "runtime", 0⟩, ⟨"y", 3, 1, false, "", "runtime", 8⟩, ⟨"signed", 4, 2, false, "", "runtime", 16⟩, ⟨"code", 6, 3, false, "", "runtime", 17⟩], 4, 24, .agg [.int .i64 (0), .int .i64 (0), .bool false, .int .u8 (0)]⟩ := rfl
theorem ti9 : ti env 9 = M.pure ⟨Go.TypeDesc.string, 1, 16, .str []⟩ := rfl
theorem OW : ti env 24 = M.pure ⟨Go.TypeDesc.array 32 5, 32, 32, .agg [.int .u8 (0), .int .u8 (0), .int .u8 (0), .int .u8 (0), .int .u8 (0), .int .u8 (0), .int .u8 (0), .int .u8 (0), .int .u8 (0), .int .u8 (0), .int .u8 (0), .int .u8 (0), .int .u8 (0), .int .u8 (0), .int .u8 (0), .int .u8 (0), .int .u8 (0), .int .u8 (0), .int .u8 (0), .int .u8 (0), .int .u8 (0), .int .u8 (0), .int .u8 (0), .int .u8 (0), .int .u8 (0), .int .u8 (0), .int .u8 (0), .int .u8 (0), .int .u8 (0), .int .u8 (0), .int .u8 (0), .int .u8 (0)]⟩ := rfl
theorem nH : ti env 25 = M.pure ⟨Go.TypeDesc.array 32 5, 32, 32, .agg [.int .u8 (0), .int .u8 (0), .int .u8 (0), .int .u8 (0), .int .u8 (0), .int .u8 (0), .int .u8 (0), .int .u8 (0), .int .u8 (0), .int .u8 (0), .int .u8 (0), .int .u8 (0), .int .u8 (0), .int .u8 (0), .int .u8 (0), .int .u8 (0), .int .u8 (0), .int .u8 (0), .int .u8 (0), .int .u8 (0), .int .u8 (0), .int .u8 (0), .int .u8 (0), .int .u8 (0), .int .u8 (0), .int .u8 (0), .int .u8 (0), .int .u8 (0), .int .u8 (0), .int .u8 (0), .int .u8 (0), .int .u8 (0)]⟩ := rfl
theorem pU : ti env 26 = M.pure ⟨Go.TypeDesc.int (Go.IntKind.u32), 1, 4, .int .u32 (0)⟩ := rfl
theorem OV : ti env 27 = M.pure ⟨Go.TypeDesc.struct #[⟨"Tx", 25, 0, false, "", "", 0⟩, ⟨"N", 26, 32, false, "", "", 32⟩], 33, 36, .agg [.int .u8 (0), .int .u8 (0), .int .u8 (0), .int .u8 (0), .int .u8 (0), .int .u8 (0), .int .u8 (0), .int .u8 (0), .int .u8 (0), .int .u8 (0), .int .u8 (0), .int .u8 (0), .int .u8 (0), .int .u8 (0), .int .u8 (0), .int .u8 (0), .int .u8 (0), .int .u8 (0), .int .u8 (0), .int .u8 (0), .int .u8 (0), .int .u8 (0), .int .u8 (0), .int .u8 (0), .int .u8 (0), .int .u8 (0), .int .u8 (0), .int .u8 (0), .int .u8 (0), .int .u8 (0), .int .u8 (0), .int .u8 (0), .int .u32 (0)]⟩ := rfl
theorem gQ : ti env 28 = M.pure ⟨Go.TypeDesc.struct #[⟨"Tx", 25, 0, false, "", "", 0⟩, ⟨"N", 26, 32, false, "", "", 32⟩], 33, 36, .agg [.int .u8 (0), .int .u8 (0), .int .u8 (0), .int .u8 (0), .int .u8 (0), .int .u8 (0), .int .u8 (0), .int .u8 (0), .int .u8 (0), .int .u8 (0), .int .u8 (0), .int .u8 (0), .int .u8 (0), .int .u8 (0), .int .u8 (0), .int .u8 (0), .int .u8 (0), .int .u8 (0), .int .u8 (0), .int .u8 (0), .int .u8 (0), .int .u8 (0), .int .u8 (0), .int .u8 (0), .int .u8 (0), .int .u8 (0), .int .u8 (0), .int .u8 (0), .int .u8 (0), .int .u8 (0), .int .u8 (0), .int .u8 (0), .int .u32 (0)]⟩ := rfl
theorem jJ : ti env 29 = M.pure ⟨Go.TypeDesc.slice 5, 1, 24, .aT⟩ := rfl
theorem OU : ti env 30 = M.pure ⟨Go.TypeDesc.struct #[⟨"Point", 28, 0, false, "", "", 0⟩, ⟨"Made", 3, 33, false, "", "", 40⟩, ⟨"Value", 2, 34, false, "", "", 48⟩, ⟨"Script", 29, 35, false, "", "", 56⟩, ⟨"Base", 4, 36, false, "", "", 80⟩, ⟨"Spent", 3, 37, false, "", "", 88⟩, ⟨"Spender", 25, 38, false, "", "", 96⟩], 70, 128, .agg [.int .u8 (0), .int .u8 (0), .int .u8 (0), .int .u8 (0), .int .u8 (0), .int .u8 (0), .int .u8 (0), .int .u8 (0), .int .u8 (0), .int .u8 (0), .int .u8 (0), .int .u8 (0), .int .u8 (0), .int .u8 (0), .int .u8 (0), .int .u8 (0), .int .u8 (0), .int .u8 (0), .int .u8 (0), .int .u8 (0), .int .u8 (0), .int .u8 (0), .int .u8 (0), .int .u8 (0), .int .u8 (0), .int .u8 (0), .int .u8 (0), .int .u8 (0), .int .u8 (0), .int .u8 (0), .int .u8 (0), .int .u8 (0), .int .u32 (0), .int .i64 (0), .int .i64 (0), .aT, .bool false, .int .i64 (0), .int .u8 (0), .int .u8 (0), .int .u8 (0), .int .u8 (0), .int .u8 (0), .int .u8 (0), .int .u8 (0), .int .u8 (0), .int .u8 (0), .int .u8 (0), .int .u8 (0), .int .u8 (0), .int .u8 (0), .int .u8 (0), .int .u8 (0), .int .u8 (0), .int .u8 (0), .int .u8 (0), .int .u8 (0), .int .u8 (0), .int .u8 (0), .int .u8 (0), .int .u8 (0), .int .u8 (0), .int .u8 (0), .int .u8 (0), .int .u8 (0), .int .u8 (0), .int .u8 (0), .int .u8 (0), .int .u8 (0), .int .u8 (0)]⟩ := rfl
theorem dZ : ti env 31 = M.pure ⟨Go.TypeDesc.struct #[⟨"Point", 28, 0, false, "", "", 0⟩, ⟨"Made", 3, 33, false, "", "", 40⟩, ⟨"Value", 2, 34, false, "", "", 48⟩, ⟨"Script", 29, 35, false, "", "", 56⟩, ⟨"Base", 4, 36, false, "", "", 80⟩, ⟨"Spent", 3, 37, false, "", "", 88⟩, ⟨"Spender", 25, 38, false, "", "", 96⟩], 70, 128, .agg [.int .u8 (0), .int .u8 (0), .int .u8 (0), .int .u8 (0), .int .u8 (0), .int .u8 (0), .int .u8 (0), .int .u8 (0), .int .u8 (0), .int .u8 (0), .int .u8 (0), .int .u8 (0), .int .u8 (0), .int .u8 (0), .int .u8 (0), .int .u8 (0), .int .u8 (0), .int .u8 (0), .int .u8 (0), .int .u8 (0), .int .u8 (0), .int .u8 (0), .int .u8 (0), .int .u8 (0), .int .u8 (0), .int .u8 (0), .int .u8 (0), .int .u8 (0), .int .u8 (0), .int .u8 (0), .int .u8 (0), .int .u8 (0), .int .u32 (0), .int .i64 (0), .int .i64 (0), .aT, .bool false, .int .i64 (0), .int .u8 (0), .int .u8 (0), .int .u8 (0), .int .u8 (0), .int .u8 (0), .int .u8 (0), .int .u8 (0), .int .u8 (0), .int .u8 (0), .int .u8 (0), .int .u8 (0), .int .u8 (0), .int .u8 (0), .int .u8 (0), .int .u8 (0), .int .u8 (0), .int .u8 (0), .int .u8 (0), .int .u8 (0), .int .u8 (0), .int .u8 (0), .int .u8 (0), .int .u8 (0), .int .u8 (0), .int .u8 (0), .int .u8 (0), .int .u8 (0), .int .u8 (0), .int .u8 (0), .int .u8 (0), .int .u8 (0), .int .u8 (0)]⟩ := rfl
theorem YB : ti env 32 = M.pure ⟨Go.TypeDesc.int (Go.IntKind.i64), 1, 8, .int .i64 (0)⟩ := rfl
theorem YA : ti env 35 = M.pure ⟨Go.TypeDesc.func #[26] #[28] false, 1, 8, .dL⟩ := rfl
theorem Y9 : ti env 37 = M.pure ⟨Go.TypeDesc.tuple #[36, 32], 1, 0, .tup [.aT, .int .i64 (0)]⟩ := rfl
theorem fZ : ti env 43 = M.pure ⟨Go.TypeDesc.slice 31, 1, 24, .aT⟩ := rfl
theorem OT : ti env 44 = M.pure ⟨Go.TypeDesc.slice 48, 1, 24, .aT⟩ := rfl
theorem OS : ti env 47 = M.pure ⟨Go.TypeDesc.struct #[⟨"Point", 28, 0, false, "", "", 0⟩, ⟨"Spender", 25, 33, false, "", "", 36⟩], 65, 68, .agg [.int .u8 (0), .int .u8 (0), .int .u8 (0), .int .u8 (0), .int .u8 (0), .int .u8 (0), .int .u8 (0), .int .u8 (0), .int .u8 (0), .int .u8 (0), .int .u8 (0), .int .u8 (0), .int .u8 (0), .int .u8 (0), .int .u8 (0), .int .u8 (0), .int .u8 (0), .int .u8 (0), .int .u8 (0), .int .u8 (0), .int .u8 (0), .int .u8 (0), .int .u8 (0), .int .u8 (0), .int .u8 (0), .int .u8 (0), .int .u8 (0), .int .u8 (0), .int .u8 (0), .int .u8 (0), .int .u8 (0), .int .u8 (0), .int .u32 (0), .int .u8 (0), .int .u8 (0), .int .u8 (0), .int .u8 (0), .int .u8 (0), .int .u8 (0), .int .u8 (0), .int .u8 (0), .int .u8 (0), .int .u8 (0), .int .u8 (0), .int .u8 (0), .int .u8 (0), .int .u8 (0), .int .u8 (0), .int .u8 (0), .int .u8 (0), .int .u8 (0), .int .u8 (0), .int .u8 (0), .int .u8 (0), .int .u8 (0), .int .u8 (0), .int .u8 (0), .int .u8 (0), .int .u8 (0), .int .u8 (0), .int .u8 (0), .int .u8 (0), .int .u8 (0), .int .u8 (0), .int .u8 (0)]⟩ := rfl
theorem OR : ti env 48 = M.pure ⟨Go.TypeDesc.struct #[⟨"Point", 28, 0, false, "", "", 0⟩, ⟨"Spender", 25, 33, false, "", "", 36⟩], 65, 68, .agg [.int .u8 (0), .int .u8 (0), .int .u8 (0), .int .u8 (0), .int .u8 (0), .int .u8 (0), .int .u8 (0), .int .u8 (0), .int .u8 (0), .int .u8 (0), .int .u8 (0), .int .u8 (0), .int .u8 (0), .int .u8 (0), .int .u8 (0), .int .u8 (0), .int .u8 (0), .int .u8 (0), .int .u8 (0), .int .u8 (0), .int .u8 (0), .int .u8 (0), .int .u8 (0), .int .u8 (0), .int .u8 (0), .int .u8 (0), .int .u8 (0), .int .u8 (0), .int .u8 (0), .int .u8 (0), .int .u8 (0), .int .u8 (0), .int .u32 (0), .int .u8 (0), .int .u8 (0), .int .u8 (0), .int .u8 (0), .int .u8 (0), .int .u8 (0), .int .u8 (0), .int .u8 (0), .int .u8 (0), .int .u8 (0), .int .u8 (0), .int .u8 (0), .int .u8 (0), .int .u8 (0), .int .u8 (0), .int .u8 (0), .int .u8 (0), .int .u8 (0), .int .u8 (0), .int .u8 (0), .int .u8 (0), .int .u8 (0), .int .u8 (0), .int .u8 (0), .int .u8 (0), .int .u8 (0), .int .u8 (0), .int .u8 (0), .int .u8 (0), .int .u8 (0), .int .u8 (0), .int .u8 (0)]⟩ := rfl
theorem Y6 : ti env 49 = M.pure ⟨Go.TypeDesc.func #[] #[3] false, 1, 8, .dL⟩ := rfl
theorem Y5 : ti env 51 = M.pure ⟨Go.TypeDesc.func #[28, 3] #[43, 32] false, 1, 8, .dL⟩ := rfl
theorem Y4 : ti env 52 = M.pure ⟨Go.TypeDesc.func #[3] #[32] false, 1, 8, .dL⟩ := rfl
theorem Y3 : ti env 53 = M.pure ⟨Go.TypeDesc.tuple #[25, 32], 1, 0, .tup [.agg [.int .u8 (0), .int .u8 (0), .int .u8 (0), .int .u8 (0), .int .u8 (0), .int .u8 (0), .int .u8 (0), .int .u8 (0), .int .u8 (0), .int .u8 (0), .int .u8 (0), .int .u8 (0), .int .u8 (0), .int .u8 (0), .int .u8 (0), .int .u8 (0), .int .u8 (0), .int .u8 (0), .int .u8 (0), .int .u8 (0), .int .u8 (0), .int .u8 (0), .int .u8 (0), .int .u8 (0), .int .u8 (0), .int .u8 (0), .int .u8 (0), .int .u8 (0), .int .u8 (0), .int .u8 (0), .int .u8 (0), .int .u8 (0)], .int .i64 (0)]⟩ := rfl
theorem Y2 : ti env 54 = M.pure ⟨Go.TypeDesc.func #[3] #[25, 32] false, 1, 8, .dL⟩ := rfl
theorem Y1 : ti env 55 = M.pure ⟨Go.TypeDesc.func #[] #[43] false, 1, 8, .dL⟩ := rfl
theorem EO : ti env 56 = M.pure ⟨Go.TypeDesc.pointer 100, 1, 8, .fC⟩ := rfl
theorem XW : ti env 65 = M.pure ⟨Go.TypeDesc.slice 91, 1, 24, .aT⟩ := rfl
theorem XV : ti env 74 = M.pure ⟨Go.TypeDesc.func #[65, 31, 5] #[4] false, 1, 8, .dL⟩ := rfl
theorem XU : ti env 76 = M.pure ⟨Go.TypeDesc.int (Go.IntKind.i8), 1, 1, .int .i8 (0)⟩ := rfl
theorem XT : ti env 77 = M.pure ⟨Go.TypeDesc.func #[] #[56] false, 1, 8, .dL⟩ := rfl
theorem XS : ti env 81 = M.pure ⟨Go.TypeDesc.slice 29, 1, 24, .aT⟩ := rfl
theorem XR : ti env 85 = M.pure ⟨Go.TypeDesc.pointer 87, 1, 8, .fC⟩ := rfl
theorem XQ : ti env 86 = M.pure ⟨Go.TypeDesc.struct #[⟨"L", 43, 0, false, "", "", 0⟩], 1, 24, .agg [.aT]⟩ := rfl
theorem T5 : ti env 87 = M.pure ⟨Go.TypeDesc.struct #[⟨"L", 43, 0, false, "", "", 0⟩], 1, 24, .agg [.aT]⟩ := rfl
theorem XP : ti env 90 = M.pure ⟨Go.TypeDesc.struct #[⟨"Kind", 3, 0, false, "", "", 0⟩, ⟨"V", 31, 1, false, "", "", 8⟩, ⟨"At", 3, 71, false, "", "", 136⟩], 72, 144, .agg [.int .i64 (0), .int .u8 (0), .int .u8 (0), .int .u8 (0), .int .u8 (0), .int .u8 (0), .int .u8 (0), .int .u8 (0), .int .u8 (0), .int .u8 (0), .int .u8 (0), .int .u8 (0), .int .u8 (0), .int .u8 (0), .int .u8 (0), .int .u8 (0), .int .u8 (0), .int .u8 (0), .int .u8 (0), .int .u8 (0), .int .u8 (0), .int .u8 (0), .int .u8 (0), .int .u8 (0), .int .u8 (0), .int .u8 (0), .int .u8 (0), .int .u8 (0), .int .u8 (0), .int .u8 (0), .int .u8 (0), .int .u8 (0), .int .u8 (0), .int .u32 (0), .int .i64 (0), .int .i64 (0), .aT, .bool false, .int .i64 (0), .int .u8 (0), .int .u8 (0), .int .u8 (0), .int .u8 (0), .int .u8 (0), .int .u8 (0), .int .u8 (0), .int .u8 (0), .int .u8 (0), .int .u8 (0), .int .u8 (0), .int .u8 (0), .int .u8 (0), .int .u8 (0), .int .u8 (0), .int .u8 (0), .int .u8 (0), .int .u8 (0), .int .u8 (0), .int .u8 (0), .int .u8 (0), .int .u8 (0), .int .u8 (0), .int .u8 (0), .int .u8 (0), .int .u8 (0), .int .u8 (0), .int .u8 (0), .int .u8 (0), .int .u8 (0), .int .u8 (0), .int .u8 (0), .int .i64 (0)]⟩ := rfl
theorem OQ : ti env 91 = M.pure ⟨Go.TypeDesc.struct #[⟨"Kind", 3, 0, false, "", "", 0⟩, ⟨"V", 31, 1, false, "", "", 8⟩, ⟨"At", 3, 71, false, "", "", 136⟩], 72, 144, .agg [.int .i64 (0), .int .u8 (0), .int .u8 (0), .int .u8 (0), .int .u8 (0), .int .u8 (0), .int .u8 (0), .int .u8 (0), .int .u8 (0), .int .u8 (0), .int .u8 (0), .int .u8 (0), .int .u8 (0), .int .u8 (0), .int .u8 (0), .int .u8 (0), .int .u8 (0), .int .u8 (0), .int .u8 (0), .int .u8 (0), .int .u8 (0), .int .u8 (0), .int .u8 (0), .int .u8 (0), .int .u8 (0), .int .u8 (0), .int .u8 (0), .int .u8 (0), .int .u8 (0), .int .u8 (0), .int .u8 (0), .int .u8 (0), .int .u8 (0), .int .u32 (0), .int .i64 (0), .int .i64 (0), .aT, .bool false, .int .i64 (0), .int .u8 (0), .int .u8 (0), .int .u8 (0), .int .u8 (0), .int .u8 (0), .int .u8 (0), .int .u8 (0), .int .u8 (0), .int .u8 (0), .int .u8 (0), .int .u8 (0), .int .u8 (0), .int .u8 (0), .int .u8 (0), .int .u8 (0), .int .u8 (0), .int .u8 (0), .int .u8 (0), .int .u8 (0), .int .u8 (0), .int .u8 (0), .int .u8 (0), .int .u8 (0), .int .u8 (0), .int .u8 (0), .int .u8 (0), .int .u8 (0), .int .u8 (0), .int .u8 (0), .int .u8 (0), .int .u8 (0), .int .u8 (0), .int .i64 (0)]⟩ := rfl
theorem XO : ti env 92 = M.pure ⟨Go.TypeDesc.func #[28] #[43] false, 1, 8, .dL⟩ := rfl
theorem mK : ti env 95 = M.pure ⟨Go.TypeDesc.slice 128, 1, 24, .aT⟩ := rfl
theorem EN : ti env 96 = M.pure ⟨Go.TypeDesc.func #[128, 128] #[3] false, 1, 8, .dL⟩ := rfl
theorem OP : ti env 97 = M.pure ⟨Go.TypeDesc.struct #[⟨"l", 95, 0, false, "", "purser/index", 0⟩, ⟨"order", 96, 1, false, "", "purser/index", 24⟩], 2, 32, .agg [.aT, .dL]⟩ := rfl
theorem OO : ti env 98 = M.pure ⟨Go.TypeDesc.struct #[⟨"l", 95, 0, false, "", "purser/index", 0⟩, ⟨"order", 96, 1, false, "", "purser/index", 24⟩], 2, 32, .agg [.aT, .dL]⟩ := rfl
theorem ON : ti env 99 = M.pure ⟨Go.TypeDesc.struct #[⟨"made", 4, 0, false, "", "purser/index", 0⟩, ⟨"points", 98, 1, false, "", "purser/index", 8⟩, ⟨"scripts", 98, 3, false, "", "purser/index", 40⟩], 5, 72, .agg [.bool false, .aT, .dL, .aT, .dL]⟩ := rfl
theorem DP : ti env 100 = M.pure ⟨Go.TypeDesc.struct #[⟨"made", 4, 0, false, "", "purser/index", 0⟩, ⟨"points", 98, 1, false, "", "purser/index", 8⟩, ⟨"scripts", 98, 3, false, "", "purser/index", 40⟩], 5, 72, .agg [.bool false, .aT, .dL, .aT, .dL]⟩ := rfl
theorem TJ : ti env 106 = M.pure ⟨Go.TypeDesc.func #[105, 3] #[46] false, 1, 8, .dL⟩ := rfl
theorem TG : ti env 109 = M.pure ⟨Go.TypeDesc.func #[29, 3] #[2, 32] false, 1, 8, .dL⟩ := rfl
theorem TF : ti env 110 = M.pure ⟨Go.TypeDesc.func #[101] #[4] false, 1, 8, .dL⟩ := rfl
theorem TD : ti env 114 = M.pure ⟨Go.TypeDesc.func #[31, 3] #[31] false, 1, 8, .dL⟩ := rfl
theorem iI : ti env 128 = M.pure ⟨Go.TypeDesc.pointer 31, 1, 8, .fC⟩ := rfl
theorem GL : ti env 129 = M.pure ⟨Go.TypeDesc.func #[128] #[4] false, 1, 8, .dL⟩ := rfl
theorem TC : ti env 134 = M.pure ⟨Go.TypeDesc.func #[129] #[] false, 1, 8, .dL⟩ := rfl
theorem TB : ti env 135 = M.pure ⟨Go.TypeDesc.func #[129] #[] false, 1, 8, .dL⟩ := rfl
theorem TA : ti env 140 = M.pure ⟨Go.TypeDesc.func #[29, 29] #[4] false, 1, 8, .dL⟩ := rfl
theorem T9 : ti env 147 = M.pure ⟨Go.TypeDesc.slice 3, 1, 24, .aT⟩ := rfl
theorem GK : ti env 156 = M.pure ⟨Go.TypeDesc.pointer 98, 1, 8, .fC⟩ := rfl
theorem T7 : ti env 166 = M.pure ⟨Go.TypeDesc.int (Go.IntKind.u64), 1, 8, .int .u64 (0)⟩ := rfl
theorem fi8 : FI 8 fu8 := rfl
theorem ff8 : FF 8 := rfl
theorem fg8 : ∀ tm : List aA, bQ env 8 tm = aN [T, T, F, F, T, T, T, T, T, T, T, T, T, T, T, T, T, T, T, T, F, T, F, F, F, F, T, T, T, F, F, F, F, F, F, F, F, F, F, F, F, T, F, F, F, F, F, F, F, F, F, F, F, F, F, F, F, F, F, F, F, F, F, F, F, F, F, F, F, F, F, F, F, F, F, F, F, F, F, F, F, F, F, F, F, F, F, F, F, F, F, F, F, F, F, F, F, F, F, F, F, F, F, F, F, F, F, F, F, F, F, F, F, F, F, F, F, F, F, F, F, F, F, F, F, F, F, F, F, F, F, F, F, F, F, F, F, F, F, F, F, F, F, F, F, F, F, T, F, F, F, F, F, F, F, F, F, F, F, F, F, F, F, F, F, F, F, F, F, F, F, F, F, F, F, F, F] tm := fun _ => rfl
theorem ZY : FI 30 RT := rfl
theorem ak0 : FF 30 := rfl
theorem ae9 : ∀ tm : List aA, bQ env 30 tm = aN [T, F, T, T, F, T, T, T, F, F, F, F, F, F, F, F, T, F, F, F, F] tm := fun _ => rfl
theorem ZX : FI 32 RS := rfl
theorem aj9 : FF 32 := rfl
theorem ae8 : ∀ tm : List aA, bQ env 32 tm = aN [T, F, T, F, T, F, F, F, F, F, F] tm := fun _ => rfl
theorem ZW : FI 33 RR := rfl
theorem aj8 : FF 33 := rfl
theorem ae7 : ∀ tm : List aA, bQ env 33 tm = aN [T, T, F, T, T, T, T, F, F, T, F, F, F, F, F, F, F, F, F, F, F, F, F, F, F, F, F, F, F, F, F, F, F, F, F, F, F, F, F, F, F, F, F, F, F, F, F, F, F] tm := fun _ => rfl
theorem ZV : FI 34 RQ := rfl
theorem aj7 : FF 34 := rfl
theorem ae6 : ∀ tm : List aA, bQ env 34 tm = aN [T, T, T, F, T, F, T, T, F, T, F, F, F, F, F, T, F, F, F, F, F, F, F, F, F, F] tm := fun _ => rfl
theorem ZU : FI 35 MH := rfl
theorem aj6 : FF 35 := rfl
theorem ae5 : ∀ tm : List aA, bQ env 35 tm = aN [T, T, F, F, T, T, T, F, F, F, F, T, F, F, F, T, F, F, F, F, F, F, F, F, F, F, F, F, T] tm := fun _ => rfl
theorem ZT : FI 36 RM := rfl
theorem aj5 : FF 36 := rfl
theorem ae4 : ∀ tm : List aA, bQ env 36 tm = aN [T, T, T, T, T, F, T, F, F, T, T, T, T, F, T, F, F, F, F, F, F, F, F, F, F, F, F, F, F, F, F, F, F, F, F, F, T, F, F, F, F, F, F, F, F, F, F, F] tm := fun _ => rfl
theorem ZS : FI 37 RK := rfl
theorem aj4 : FF 37 := rfl
theorem ae3 : ∀ tm : List aA, bQ env 37 tm = aN [T, T, T, F, T, T, T, T, T, T, F, F, T, T, F, F, F, F, F, T, F, F, T, F, F, F, F, F] tm := fun _ => rfl
theorem ZR : FI 38 RJ := rfl
theorem aj3 : FF 38 := rfl
theorem ae2 : ∀ tm : List aA, bQ env 38 tm = aN [T, T, T, F, T, F, T, T, T, F, T, F, F, F, F, F, F, F, F, F, F, F, F, T, F, F, F, F, F, F, F, F, F, F] tm := fun _ => rfl
theorem ZQ : FI 39 RH := rfl
theorem aj2 : FF 39 := rfl
theorem ae1 : ∀ tm : List aA, bQ env 39 tm = aN [T, T, F, T, T, F, T, F, F, F, F, F, F, F] tm := fun _ => rfl
theorem ZP : FI 40 RG := rfl
theorem aj1 : FF 40 := rfl
theorem ae0 : ∀ tm : List aA, bQ env 40 tm = aN [T, T, F, F, F, F, F, F, F, F, F, F, F] tm := fun _ => rfl
theorem ZO : FI 41 RE := rfl
theorem aj0 : FF 41 := rfl
theorem ad9 : ∀ tm : List aA, bQ env 41 tm = aN [T, F, T, T, F, T, F, F, F, F, F, F, F, F, F, F, F, F, F, F, F, F, F, F, F, F, F, F] tm := fun _ => rfl
theorem ZN : FI 42 RD := rfl
theorem ai9 : FF 42 := rfl
theorem ad8 : ∀ tm : List aA, bQ env 42 tm = aN [T, T, T, T, T, T, F, F, F, F, F, F, F, F, F, F, F, F, F, F, F, F, F, F, F, F, F, F, F, F, F, F, F, F, F, F, F, F, F, F, F, F, F, F, F, F, F, F, F, F, F, F, F, F, F, F, F] tm := fun _ => rfl
theorem ZM : FI 43 RC := rfl
theorem ai8 : FF 43 := rfl
theorem ad7 : ∀ tm : List aA, bQ env 43 tm = aN [T, T, T, F, T, T, T, T, T, F, T, F, F, F, F, F, F, F, T, T, F, F, F, F, F, F, T, F, F, F, F, T, F, F, F, F, F, F, F, F] tm := fun _ => rfl
theorem ZL : FI 44 RA := rfl
theorem ai7 : FF 44 := rfl
theorem ad6 : ∀ tm : List aA, bQ env 44 tm = aN [T, T, F, F, T, T, F, T, F, T, F, F, F, F, F, T, T, T, T, F, F, F, F, F, F, T, F, F, F, F, F, F, F, F, F, F, F] tm := fun _ => rfl
theorem ZK : FI 45 R9 := rfl
theorem ai6 : FF 45 := rfl
theorem ad5 : ∀ tm : List aA, bQ env 45 tm = aN [T, T, T, T, T, T, F, F, F, F, F, F, T, F, F, F, F, F, T, F, F, F, F, T] tm := fun _ => rfl
theorem ZJ : FI 46 R8 := rfl
theorem ai5 : FF 46 := rfl
theorem ad4 : ∀ tm : List aA, bQ env 46 tm = aN [T, T, T, F, T, F, F, F, T, F, F, F, F, F, F, F, F, F] tm := fun _ => rfl
theorem ZI : FI 47 R7 := rfl
theorem ai4 : FF 47 := rfl
theorem ad3 : ∀ tm : List aA, bQ env 47 tm = aN [T, T, T, F, F, T, T, T, T, T, T, T, T, F, T, F, T, F, F, F, T, T, F, F, F, F, F, F, F, F, F, F, F, F, F, F, F, F, T, T, T, F, F, F, F, F, F, F, F, F, F, F, T, F, F, F, F, F, F, F, F, F, F, F, F, F, F, F, F, F, F, F, F, F, F, F, T, F, F, F, F, F, F, F, F, F, F, F, F, F, F, F, T, F, F, F, F, F, F, F, F, F, F, F, F, F, F, F, T, F, F, F, F, T, T, T, T, F, F, F, F, F, F, F, F, F, F, F, F, F, F, F, F, F, F, F, F, F, F, F, F, F, F, F, F, F, F, F, F, F, F, T, T, T, T, F, F, F, F, F, F, F, F, F, F, F, F, F, F] tm := fun _ => rfl
theorem ZH : FI 48 R6 := rfl
theorem ai3 : FF 48 := rfl
theorem ad2 : ∀ tm : List aA, bQ env 48 tm = aN [T, T, T, F, T, F, T, T, T, T, T, F, F, F, F, F, F, F, T, F, F, F, F, F, F, F, F, T, F, F, F, F, F] tm := fun _ => rfl
theorem ZG : FI 49 R5 := rfl
theorem ai2 : FF 49 := rfl
theorem ad1 : ∀ tm : List aA, bQ env 49 tm = aN [T, T, F, T, T, T, T, F, F, T, T, F, F, F, F, F, F, F, F] tm := fun _ => rfl
theorem ZF : FI 50 R4 := rfl
theorem ai1 : FF 50 := rfl
theorem ad0 : ∀ tm : List aA, bQ env 50 tm = aN [T, F, T, F, T, F, F, F, F, F, F] tm := fun _ => rfl
theorem ZE : FI 51 R3 := rfl
theorem ai0 : FF 51 := rfl
theorem ac9 : ∀ tm : List aA, bQ env 51 tm = aN [T, T, F, T, T, T, T, F, F, F, F, F, F, T, F, F, F, F, F, F, F, F, F, F, F, F, T, F, F, F, F, F, F, F, F, F, F, F] tm := fun _ => rfl
theorem ZD : FI 52 R2 := rfl
theorem ah9 : FF 52 := rfl
theorem ac8 : ∀ tm : List aA, bQ env 52 tm = aN [T, T, F, F, T, T, T, T, F, F, F, F, F, F, T, F, F, F, F, F, F, F, F, F, F, F, T, F, F, F, F, F, F, F, F, F, F, F] tm := fun _ => rfl
theorem ZC : FI 53 R1 := rfl
theorem ah8 : FF 53 := rfl
theorem ac7 : ∀ tm : List aA, bQ env 53 tm = aN [T, T, T, F, F, F, T, T, T, T, F, F, F, F, F, F, T, F, F, F, F, F, F, F, F, F, F, T, F, F, F, F, F, F, F, F] tm := fun _ => rfl
theorem ZB : FI 54 R0 := rfl
theorem ah7 : FF 54 := rfl
theorem ac6 : ∀ tm : List aA, bQ env 54 tm = aN [T, T, F, F, T, T, F, F, F, F, T, F, F, F, T, F, F, F, F, F, F, F, F, F, F, F, F, T] tm := fun _ => rfl
theorem ZA : FI 55 QZ := rfl
theorem ah6 : FF 55 := rfl
theorem ac5 : ∀ tm : List aA, bQ env 55 tm = aN [T, T, F, F, T, T, T, T, T, T, T, T, F, F, F, F, F, F, T, F, F, F, F, F, T, F, F, F, F, F, F, F, F, F, F, F, F, F, T, F, F, F, F, F, F, F, F, F, F, F, F, F, F, F, F, F, T, F, F, F, F, F, F, F, F, F, F, F, F, F, F, F, F, F, F, F] tm := fun _ => rfl
theorem Z9 : FI 56 QY := rfl
theorem ah5 : FF 56 := rfl
theorem ac4 : ∀ tm : List aA, bQ env 56 tm = aN [T, F, T, T, F, T, T, T, F, F, F, F, F, F, T, T, T, F, F, F, F, F, F, F, F, F, F, F, F, F] tm := fun _ => rfl
theorem Z8 : FI 63 J0 := rfl
theorem ah4 : FF 63 := rfl
theorem ac3 : ∀ tm : List aA, bQ env 63 tm = aN [T, F, T, T, F, T, T, T, T, T, F, F, F, F, T, F, F, F] tm := fun _ => rfl
theorem Z7 : FI 73 QX := rfl
theorem ah3 : FF 73 := rfl
theorem ac1 : ∀ tm : List aA, bQ env 73 tm = aN [T, F, T, F, F, F, F, F, F, F, F, F] tm := fun _ => rfl
theorem Z6 : FI 74 QW := rfl
theorem ah2 : FF 74 := rfl
theorem ac0 : ∀ tm : List aA, bQ env 74 tm = aN [T, T, F, F, T, T, F, T, T, T, T, T, F, F, F, F, T, F, F, F, F, F, F, F, F, F] tm := fun _ => rfl
theorem Z5 : FI 75 QV := rfl
theorem ah1 : FF 75 := rfl
theorem ab9 : ∀ tm : List aA, bQ env 75 tm = aN [F, F, T] tm := fun _ => rfl
theorem Z4 : FI 76 QU := rfl
theorem ah0 : FF 76 := rfl
theorem ab8 : ∀ tm : List aA, bQ env 76 tm = aN [T, T, T, F, T, F, T, T, T, F, F, F, F, F, F, F, F, F, F, F, F, T, F, F, F, F, F, F, F, F] tm := fun _ => rfl
theorem Z3 : FI 77 QT := rfl
theorem ag9 : FF 77 := rfl
theorem ab7 : ∀ tm : List aA, bQ env 77 tm = aN [T, T, T, F, F, F, F, F] tm := fun _ => rfl
theorem Z2 : FI 78 QS := rfl
theorem ag8 : FF 78 := rfl
theorem ab6 : ∀ tm : List aA, bQ env 78 tm = aN [T, T, F, F, T, F, F, F, F, F, F, F, F, F, F, F, F, F, F, F, F, F, F] tm := fun _ => rfl
theorem Z1 : FI 79 QR := rfl
theorem ag7 : FF 79 := rfl
theorem ab5 : ∀ tm : List aA, bQ env 79 tm = aN [T, T, F, F, T, F, F, F, F, F, F, F, F, F, F, F, F, F, F, F, F, F, F] tm := fun _ => rfl
theorem Z0 : FI 80 QQ := rfl
theorem ag6 : FF 80 := rfl
theorem ab4 : ∀ tm : List aA, bQ env 80 tm = aN [T, T, T, F, F, T, F, F, F, F, F, F, F, F, F, F, F, F, F, F, F, F, F, F] tm := fun _ => rfl
theorem YZ : FI 81 QP := rfl
theorem ag5 : FF 81 := rfl
theorem ab3 : ∀ tm : List aA, bQ env 81 tm = aN [T, T, T, T, T, F] tm := fun _ => rfl
theorem YY : FI 82 QO := rfl
theorem ag4 : FF 82 := rfl
theorem ab2 : ∀ tm : List aA, bQ env 82 tm = aN [T, T, T, F, T, F, F, F, F, F, F, F, F, F, F, F, F, F, F, F] tm := fun _ => rfl
theorem YX : FI 83 QN := rfl
theorem ag3 : FF 83 := rfl
theorem ab1 : ∀ tm : List aA, bQ env 83 tm = aN [T, T, F, T, F, F, F, F, F] tm := fun _ => rfl
theorem YW : FI 84 QM := rfl
theorem ag2 : FF 84 := rfl
theorem ab0 : ∀ tm : List aA, bQ env 84 tm = aN [T, T, F, F, T, F, F, F, F, F, F, F] tm := fun _ => rfl
theorem YV : FI 85 QL := rfl
theorem ag1 : FF 85 := rfl
theorem aa9 : ∀ tm : List aA, bQ env 85 tm = aN [T, T, F, F, T, F, F, F, F, F, F, F, F, F, F, F, F, F, F] tm := fun _ => rfl
theorem YU : FI 86 QK := rfl
theorem ag0 : FF 86 := rfl
theorem aa8 : ∀ tm : List aA, bQ env 86 tm = aN [T, F, T, F, T, F, F, F] tm := fun _ => rfl
theorem YT : FI 87 QJ := rfl
theorem af9 : FF 87 := rfl
theorem aa7 : ∀ tm : List aA, bQ env 87 tm = aN [T, T, T, T, T, T, F, T, F, F, F, F, F, F, F, F, F, F, T, F, F, F, F, F, F, F, F, T, F, F, F, F, T, F, F, F, F, T] tm := fun _ => rfl
theorem YS : FI 88 QI := rfl
theorem af8 : FF 88 := rfl
theorem aa6 : ∀ tm : List aA, bQ env 88 tm = aN [T, T, T, T, T, F] tm := fun _ => rfl
theorem YR : FI 89 QH := rfl
theorem af7 : FF 89 := rfl
theorem aa5 : ∀ tm : List aA, bQ env 89 tm = aN [T, T, F, F, T, F, F, F, F, F] tm := fun _ => rfl
theorem YQ : FI 90 QG := rfl
theorem af6 : FF 90 := rfl
theorem aa4 : ∀ tm : List aA, bQ env 90 tm = aN [T, F, T, F, T, F, F, F] tm := fun _ => rfl
theorem YP : FI 91 MF := rfl
theorem af5 : FF 91 := rfl
theorem aa3 : ∀ tm : List aA, bQ env 91 tm = aN [T, T, F, F, T, T, T, T, F, F, T, F, F, F, F, T, F, F, F, F, F, F, F, F, F, F, F, F, T, F, F, F, F, F, F, T, F, F, F, F, F, F, F, F, F, F, F, F, F, T, F, F, F, F, F, F, F, F, F, F, F, F, F, F, F, F] tm := fun _ => rfl
theorem YO : FI 92 QF := rfl
theorem af4 : FF 92 := rfl
theorem aa2 : ∀ tm : List aA, bQ env 92 tm = aN [T, T, F, T, T, T, T, T, T, F, F, F, F, F, F, F, F, F, F, F, F, F, F, F, F, F, F, F, F, F, F, F, F, F, F, F, F, F, T, F, F, F, F, F, F, F, F, F, F, T, F, F, F, F, F, F, F, F, F, F, F, F, F, F, F, T, F, F, F, F, F, F, F, F, F, F, F, F, F, F, F, T, F, F, F, F, F, F, F, F] tm := fun _ => rfl
theorem YN : FI 93 QD := rfl
theorem af3 : FF 93 := rfl
theorem aa1 : ∀ tm : List aA, bQ env 93 tm = aN [T, T, T, T, T, F, T, F, F, T, T, T, F, F, F, F, F, F, F, F, F, F, F, F, F, F, F, F, F, F, F, F, F, F, F, F, F, T, F, F, F, F, F, F, F, F, F, F, F, F, F, F, F, F] tm := fun _ => rfl
theorem YM : FI 94 QC := rfl
theorem af2 : FF 94 := rfl
theorem aa0 : ∀ tm : List aA, bQ env 94 tm = aN [T, T, T, F, T, F, T, T, F, F, F, F, F, F, F, F, F, F, F, F, F, F, F, F, T, F, F, F, F, F, F, F, F, F, F, F, F, F, F, F] tm := fun _ => rfl
theorem YL : FI 95 QB := rfl
theorem af1 : FF 95 := rfl
theorem ZZ : ∀ tm : List aA, bQ env 95 tm = aN [T, T, T, F, T, F, T, T, T, T, F, F, F, F, F, T, F, F, F, F, F, F, T, F, F, F, F, T, F, F, F, F, F, F, F, F, F, F, F, F, F, F] tm := fun _ => rfl
theorem UT : FI 103 JC := rfl
theorem VU : FF 103 := rfl
theorem VD : ∀ tm : List aA, bQ env 103 tm = aN [T, T, F, F, T, T, F, F, F, F, F, F, F, F, F, F, F, F] tm := fun _ => rfl
theorem US : FI 105 JB := rfl
theorem VT : FF 105 := rfl
theorem VB : ∀ tm : List aA, bQ env 105 tm = aN [T, T, T, F, F, F, T, T, F, F, F, F, F, F, F, F, T, F, F, F, F, F, F, F, F, F, F, F, F, F, F, F, F] tm := fun _ => rfl
theorem UR : FI 106 JA := rfl
theorem VS : FF 106 := rfl
theorem NJ : ∀ args : List aA, iC env (aX env) 106 args = bO env (aX env) 106 args := HK 106 rfl
theorem V9 : ∀ tm : List aA, bQ env 106 tm = aN [T, T, T, T, T, F, T, F, F, F, F, F, F, T, T, F, F, F, F, F, F, F, F, F, F, F, T] tm := fun _ => rfl
theorem UQ : FI 107 J9 := rfl
theorem VR : FF 107 := rfl
theorem V8 : ∀ tm : List aA, bQ env 107 tm = aN [T, T, T, T, T, F, F, F, F, F, F, F, F, F, F, F, F] tm := fun _ => rfl
theorem UO : FI 109 J7 := rfl
theorem VP : FF 109 := rfl
theorem NI : ∀ args : List aA, iC env (aX env) 109 args = bO env (aX env) 109 args := HK 109 rfl
theorem V6 : ∀ tm : List aA, bQ env 109 tm = aN [T, T, T, F, T, F, F, T, F, F, F, F, F, F, F, F, F, F, F, T, T, T, T, F, F, F, F, F, T, F] tm := fun _ => rfl
theorem UN : FI 110 J6 := rfl
theorem VO : FF 110 := rfl
theorem V5 : ∀ tm : List aA, bQ env 110 tm = aN [T, T, T, F, T, F, T, T, F, F, F, F, F, F, T, F, F, F, F, F, F, F, F, F, F, F, F, F, F, F, F, F, F, F, F, F, F, F, F, T, F] tm := fun _ => rfl
theorem UM : FI 111 J5 := rfl
theorem VN : FF 111 := rfl
theorem V4 : ∀ tm : List aA, bQ env 111 tm = aN [T, F, T, T, F, F, F] tm := fun _ => rfl
theorem UL : FI 114 J4 := rfl
theorem VM : FF 114 := rfl
theorem V3 : ∀ tm : List aA, bQ env 114 tm = aN [T, T, T, F, F, F, T, T, T, T, T, T, F, F, F, F, F, T, F, F, F, F, F, F, F, F, F, F, F, F, F, T, F, F, F, F, F, F, F, F, F, F, F, F, F, F, F, F, F] tm := fun _ => rfl
theorem fi116 : FI 116 NN := rfl
theorem ff116 : FF 116 := rfl
theorem V2 : ∀ tm : List aA, bQ env 116 tm = aN [T, T, F, F, F, F, F, F, F, F] tm := fun _ => rfl
theorem UK : FI 117 J3 := rfl
theorem VK : FF 117 := rfl
theorem V1 : ∀ tm : List aA, bQ env 117 tm = aN [T, T, T, T, T, F, F, F, F, F, F, F, F, F, F, F, F] tm := fun _ => rfl
theorem UJ : FI 118 E6 := rfl
theorem VJ : FF 118 := rfl
theorem V0 : ∀ tm : List aA, bQ env 118 tm = aN [T, T, F, F, T, T, T, F, F, F, F, T, T, T, F, F, T, F, F, T] tm := fun _ => rfl
theorem fi120 : FI 120 NM := rfl
theorem ff120 : FF 120 := rfl
theorem UZ : ∀ tm : List aA, bQ env 120 tm = aN [T, T, F, F, F, F, F, F, F, F, F, F, F, F] tm := fun _ => rfl
theorem UI : FI 121 E5 := rfl
theorem VI : FF 121 := rfl
theorem UY : ∀ tm : List aA, bQ env 121 tm = aN [T, T, F, F, T, T, T, F, F, F, F, T, T, T, F, F, T, F, F, T] tm := fun _ => rfl
theorem UH : FI 122 J2 := rfl
theorem VH : FF 122 := rfl
theorem UX : ∀ tm : List aA, bQ env 122 tm = aN [T, F, T, F, F, F] tm := fun _ => rfl
theorem fi123 : FI 123 NL := rfl
theorem ff123 : FF 123 := rfl
theorem UW : ∀ tm : List aA, bQ env 123 tm = aN [T, F, T, T, F, F, F, F, F, T, F, F, F, F, F, F, F, F, F, F, F, F, F, F, F, F, F, F] tm := fun _ => rfl
theorem UG : FI 124 J1 := rfl
theorem VG : FF 124 := rfl
theorem UU : ∀ tm : List aA, bQ env 124 tm = aN [T, F, T, F, F, F] tm := fun _ => rfl
theorem YK : ∀ args : List aA, iC env (aX env) 20 args = Ins.EK args := fun _ => rfl
theorem UC : ∀ args : List aA, iC env (aX env) 104 args = (sJ 128 nC.i) args := fun _ => rfl
theorem UB : ∀ args : List aA, iC env (aX env) 108 args = dB args := fun _ => rfl
theorem IY : ∀ args : List aA, iC env (aX env) 112 args = dB args := fun _ => rfl
theorem IX : ∀ args : List aA, iC env (aX env) 115 args = (gS 128) args := fun _ => rfl
theorem IW : ∀ args : List aA, iC env (aX env) 119 args = dB args := fun _ => rfl
theorem al9 : ∀ ts l, cP env (9 :: ts) (.str l) = M.pure (.int .i64 (l.length : Nat)) := fun _ _ => rfl
theorem KE : ∀ ts v, cP env (24 :: ts) v = M.pure (.int .i64 32) := fun _ _ => rfl
theorem KD : ∀ ts v, cP env (25 :: ts) v = M.pure (.int .i64 32) := fun _ _ => rfl
theorem KC : ∀ ts id off len cap sz, cP env (29 :: ts) (.sl id off len cap sz) = M.pure (.int .i64 (len : Nat)) := fun _ _ _ _ _ _ => rfl
theorem KB : ∀ ts g sz off len, cP env (29 :: ts) (.isl g sz off len) = M.pure (.int .i64 (len : Nat)) := fun _ _ _ _ _ => rfl
theorem KA : ∀ ts, cP env (29 :: ts) .aT = M.pure (.int .i64 0) := fun _ => rfl
theorem K9 : ∀ ts, cP env (29 :: ts) .emp = M.pure (.int .i64 0) := fun _ => rfl
theorem K8 : ∀ ts id off len cap sz, cP env (43 :: ts) (.sl id off len cap sz) = M.pure (.int .i64 (len : Nat)) := fun _ _ _ _ _ _ => rfl
theorem K7 : ∀ ts g sz off len, cP env (43 :: ts) (.isl g sz off len) = M.pure (.int .i64 (len : Nat)) := fun _ _ _ _ _ => rfl
theorem K6 : ∀ ts, cP env (43 :: ts) .aT = M.pure (.int .i64 0) := fun _ => rfl
theorem K5 : ∀ ts, cP env (43 :: ts) .emp = M.pure (.int .i64 0) := fun _ => rfl
theorem K4 : ∀ ts id off len cap sz, cP env (44 :: ts) (.sl id off len cap sz) = M.pure (.int .i64 (len : Nat)) := fun _ _ _ _ _ _ => rfl
theorem K3 : ∀ ts g sz off len, cP env (44 :: ts) (.isl g sz off len) = M.pure (.int .i64 (len : Nat)) := fun _ _ _ _ _ => rfl
theorem K2 : ∀ ts, cP env (44 :: ts) .aT = M.pure (.int .i64 0) := fun _ => rfl
theorem K1 : ∀ ts, cP env (44 :: ts) .emp = M.pure (.int .i64 0) := fun _ => rfl
theorem WH : ∀ ts id off len cap sz, cP env (65 :: ts) (.sl id off len cap sz) = M.pure (.int .i64 (len : Nat)) := fun _ _ _ _ _ _ => rfl
theorem WG : ∀ ts g sz off len, cP env (65 :: ts) (.isl g sz off len) = M.pure (.int .i64 (len : Nat)) := fun _ _ _ _ _ => rfl
theorem WE : ∀ ts, cP env (65 :: ts) .aT = M.pure (.int .i64 0) := fun _ => rfl
theorem WD : ∀ ts, cP env (65 :: ts) .emp = M.pure (.int .i64 0) := fun _ => rfl
theorem WC : ∀ ts id off len cap sz, cP env (81 :: ts) (.sl id off len cap sz) = M.pure (.int .i64 (len : Nat)) := fun _ _ _ _ _ _ => rfl
theorem WB : ∀ ts g sz off len, cP env (81 :: ts) (.isl g sz off len) = M.pure (.int .i64 (len : Nat)) := fun _ _ _ _ _ => rfl
theorem WA : ∀ ts, cP env (81 :: ts) .aT = M.pure (.int .i64 0) := fun _ => rfl
theorem W9 : ∀ ts, cP env (81 :: ts) .emp = M.pure (.int .i64 0) := fun _ => rfl
theorem K0 : ∀ ts id off len cap sz, cP env (95 :: ts) (.sl id off len cap sz) = M.pure (.int .i64 (len : Nat)) := fun _ _ _ _ _ _ => rfl
theorem JZ : ∀ ts g sz off len, cP env (95 :: ts) (.isl g sz off len) = M.pure (.int .i64 (len : Nat)) := fun _ _ _ _ _ => rfl
theorem JY : ∀ ts, cP env (95 :: ts) .aT = M.pure (.int .i64 0) := fun _ => rfl
theorem JX : ∀ ts, cP env (95 :: ts) .emp = M.pure (.int .i64 0) := fun _ => rfl
theorem SE : ∀ ts id off len cap sz, cP env (147 :: ts) (.sl id off len cap sz) = M.pure (.int .i64 (len : Nat)) := fun _ _ _ _ _ _ => rfl
theorem SD : ∀ ts g sz off len, cP env (147 :: ts) (.isl g sz off len) = M.pure (.int .i64 (len : Nat)) := fun _ _ _ _ _ => rfl
theorem SC : ∀ ts, cP env (147 :: ts) .aT = M.pure (.int .i64 0) := fun _ => rfl
theorem SB : ∀ ts, cP env (147 :: ts) .emp = M.pure (.int .i64 0) := fun _ => rfl
noncomputable def I5 : Code := (bC (Try.f8.body.getD .skip)).getD 0 .skip
noncomputable def CR : Code := (bC (Try.f30.body.getD .skip)).getD 0 .skip
noncomputable def CQ : Code := (bC (Try.f35.body.getD .skip)).getD 0 .skip
noncomputable def HD : Code := ((dP (Try.f37.body.getD .skip)).getD 0 (.skip, .skip)).1
noncomputable def HA : Code := ((dP (Try.f37.body.getD .skip)).getD 0 (.skip, .skip)).2
noncomputable def HC : Code := ((dP (Try.f43.body.getD .skip)).getD 0 (.skip, .skip)).1
noncomputable def H9 : Code := ((dP (Try.f43.body.getD .skip)).getD 0 (.skip, .skip)).2
noncomputable def CP : Code := (bC (Try.f44.body.getD .skip)).getD 0 .skip
noncomputable def CO : Code := (bC (Try.f47.body.getD .skip)).getD 0 .skip
noncomputable def CN : Code := (bC (Try.f47.body.getD .skip)).getD 1 .skip
noncomputable def CM : Code := (bC (Try.f47.body.getD .skip)).getD 2 .skip
noncomputable def CL : Code := (bC (Try.f48.body.getD .skip)).getD 0 .skip
noncomputable def HB : Code := ((dP (Try.f49.body.getD .skip)).getD 0 (.skip, .skip)).1
noncomputable def H8 : Code := ((dP (Try.f49.body.getD .skip)).getD 0 (.skip, .skip)).2
noncomputable def CK : Code := (bC (Try.f51.body.getD .skip)).getD 0 .skip
noncomputable def CJ : Code := (bC (Try.f52.body.getD .skip)).getD 0 .skip
noncomputable def CI : Code := (bC (Try.f53.body.getD .skip)).getD 0 .skip
noncomputable def CH : Code := (bC (Try.f54.body.getD .skip)).getD 0 .skip
noncomputable def CG : Code := (bC (Try.f55.body.getD .skip)).getD 0 .skip
noncomputable def yW : Code := (bC (Try.f55.body.getD .skip)).getD 1 .skip
noncomputable def CF : Code := (bC (Try.f56.body.getD .skip)).getD 0 .skip
noncomputable def CE : Code := (bC (Try.f56.body.getD .skip)).getD 1 .skip
noncomputable def YE : Code := (bC (Try.f63.body.getD .skip)).getD 0 .skip
noncomputable def CD : Code := (bC (Try.f74.body.getD .skip)).getD 0 .skip
noncomputable def CC : Code := (bC (Try.f87.body.getD .skip)).getD 0 .skip
noncomputable def CB : Code := (bC (Try.f91.body.getD .skip)).getD 0 .skip
noncomputable def CA : Code := (bC (Try.f91.body.getD .skip)).getD 1 .skip
noncomputable def yV : Code := (bC (Try.f92.body.getD .skip)).getD 0 .skip
noncomputable def C9 : Code := (bC (Try.f95.body.getD .skip)).getD 0 .skip
noncomputable def DT : Code := ((dP (Try.f106.body.getD .skip)).getD 0 (.skip, .skip)).1
noncomputable def DS : Code := ((dP (Try.f106.body.getD .skip)).getD 0 (.skip, .skip)).2
noncomputable def yY : Code := (bC (Try.f109.body.getD .skip)).getD 0 .skip
noncomputable def yX : Code := (bC (Try.f110.body.getD .skip)).getD 0 .skip
noncomputable def tO : Code := (bC (Try.f114.body.getD .skip)).getD 0 .skip
noncomputable def WT : Code := (bC (Try.f123.body.getD .skip)).getD 0 .skip
def tyr := (And.intro ti2 (And.intro ti3 (And.intro ti4 (And.intro ti5 (And.intro ti6 (And.intro ti7 (And.intro ti8 (And.intro ti9 (And.intro OW (And.intro nH (And.intro pU (And.intro OV (And.intro gQ (And.intro jJ (And.intro OU (And.intro dZ (And.intro YB (And.intro YA (And.intro Y9 (And.intro fZ (And.intro OT (And.intro OS (And.intro OR (And.intro Y6 (And.intro Y5 (And.intro Y4 (And.intro Y3 (And.intro Y2 (And.intro Y1 (And.intro EO (And.intro XW (And.intro XV (And.intro XU (And.intro XT (And.intro XS (And.intro XR (And.intro XQ (And.intro T5 (And.intro XP (And.intro OQ (And.intro XO (And.intro mK (And.intro EN (And.intro OP (And.intro OO (And.intro ON (And.intro DP (And.intro TJ (And.intro TG (And.intro TF (And.intro TD (And.intro iI (And.intro GL (And.intro TC (And.intro TB (And.intro TA (And.intro T9 (And.intro GK T7))))))))))))))))))))))))))))))))))))))))))))))))))))))))))
def blr := (And.intro al9 (And.intro KE (And.intro KD (And.intro KC (And.intro KB (And.intro KA (And.intro K9 (And.intro K8 (And.intro K7 (And.intro K6 (And.intro K5 (And.intro K4 (And.intro K3 (And.intro K2 (And.intro K1 (And.intro WH (And.intro WG (And.intro WE (And.intro WD (And.intro WC (And.intro WB (And.intro WA (And.intro W9 (And.intro K0 (And.intro JZ (And.intro JY (And.intro JX (And.intro SE (And.intro SD (And.intro SC SB))))))))))))))))))))))))))))))
def fgr := (And.intro fg8 (And.intro ae9 (And.intro ae8 (And.intro ae7 (And.intro ae6 (And.intro ae5 (And.intro ae4 (And.intro ae3 (And.intro ae2 (And.intro ae1 (And.intro ae0 (And.intro ad9 (And.intro ad8 (And.intro ad7 (And.intro ad6 (And.intro ad5 (And.intro ad4 (And.intro ad3 (And.intro ad2 (And.intro ad1 (And.intro ad0 (And.intro ac9 (And.intro ac8 (And.intro ac7 (And.intro ac6 (And.intro ac5 (And.intro ac4 (And.intro ac3 (And.intro ac1 (And.intro ac0 (And.intro ab9 (And.intro ab8 (And.intro ab7 (And.intro ab6 (And.intro ab5 (And.intro ab4 (And.intro ab3 (And.intro ab2 (And.intro ab1 (And.intro ab0 (And.intro aa9 (And.intro aa8 (And.intro aa7 (And.intro aa6 (And.intro aa5 (And.intro aa4 (And.intro aa3 (And.intro aa2 (And.intro aa1 (And.intro aa0 (And.intro ZZ (And.intro VD (And.intro VB (And.intro V9 (And.intro V8 (And.intro V6 (And.intro V5 (And.intro V4 (And.intro V3 (And.intro V2 (And.intro V1 (And.intro V0 (And.intro UZ (And.intro UY (And.intro UX (And.intro UW (And.intro UU (And.intro (NB 8 rfl) (And.intro (NB 30 rfl) (And.intro (NB 32 rfl) (And.intro (NB 33 rfl) (And.intro (NB 34 rfl) (And.intro (NB 35 rfl) (And.intro (NB 36 rfl) (And.intro (NB 37 rfl) (And.intro (NB 38 rfl) (And.intro (NB 39 rfl) (And.intro (NB 40 rfl) (And.intro (NB 41 rfl) (And.intro (NB 42 rfl) (And.intro (NB 43 rfl) (And.intro (NB 44 rfl) (And.intro (NB 45 rfl) (And.intro (NB 46 rfl) (And.intro (NB 47 rfl) (And.intro (NB 48 rfl) (And.intro (NB 49 rfl) (And.intro (NB 50 rfl) (And.intro (NB 51 rfl) (And.intro (NB 52 rfl) (And.intro (NB 53 rfl) (And.intro (NB 54 rfl) (And.intro (NB 55 rfl) (And.intro (NB 56 rfl) (And.intro (NB 63 rfl) (And.intro (NB 73 rfl) (And.intro (NB 74 rfl) (And.intro (NB 75 rfl) (And.intro (NB 76 rfl) (And.intro (NB 77 rfl) (And.intro (NB 78 rfl) (And.intro (NB 79 rfl) (And.intro (NB 80 rfl) (And.intro (NB 81 rfl) (And.intro (NB 82 rfl) (And.intro (NB 83 rfl) (And.intro (NB 84 rfl) (And.intro (NB 85 rfl) (And.intro (NB 86 rfl) (And.intro (NB 87 rfl) (And.intro (NB 88 rfl) (And.intro (NB 89 rfl) (And.intro (NB 90 rfl) (And.intro (NB 91 rfl) (And.intro (NB 92 rfl) (And.intro (NB 93 rfl) (And.intro (NB 94 rfl) (And.intro (NB 95 rfl) (And.intro (NB 103 rfl) (And.intro (NB 105 rfl) (And.intro (NB 106 rfl) (And.intro (NB 107 rfl) (And.intro (NB 109 rfl) (And.intro (NB 110 rfl) (And.intro (NB 111 rfl) (And.intro (NB 114 rfl) (And.intro (NB 116 rfl) (And.intro (NB 117 rfl) (And.intro (NB 118 rfl) (And.intro (NB 120 rfl) (And.intro (NB 121 rfl) (And.intro (NB 122 rfl) (And.intro (NB 123 rfl) (NB 124 rfl))))))))))))))))))))))))))))))))))))))))))))))))))))))))))))))))))))))))))))))))))))))))))))))))))))))))))))))))))))))))))))))))))))))
def hkr := (And.intro (HK 8 rfl) (And.intro (HK 30 rfl) (And.intro (HK 32 rfl) (And.intro (HK 33 rfl) (And.intro (HK 34 rfl) (And.intro (HK 35 rfl) (And.intro (HK 36 rfl) (And.intro (HK 37 rfl) (And.intro (HK 38 rfl) (And.intro (HK 39 rfl) (And.intro (HK 40 rfl) (And.intro (HK 41 rfl) (And.intro (HK 42 rfl) (And.intro (HK 43 rfl) (And.intro (HK 44 rfl) (And.intro (HK 45 rfl) (And.intro (HK 46 rfl) (And.intro (HK 47 rfl) (And.intro (HK 48 rfl) (And.intro (HK 49 rfl) (And.intro (HK 50 rfl) (And.intro (HK 51 rfl) (And.intro (HK 52 rfl) (And.intro (HK 53 rfl) (And.intro (HK 54 rfl) (And.intro (HK 55 rfl) (And.intro (HK 56 rfl) (And.intro (HK 63 rfl) (And.intro (HK 73 rfl) (And.intro (HK 74 rfl) (And.intro (HK 75 rfl) (And.intro (HK 76 rfl) (And.intro (HK 77 rfl) (And.intro (HK 78 rfl) (And.intro (HK 79 rfl) (And.intro (HK 80 rfl) (And.intro (HK 81 rfl) (And.intro (HK 82 rfl) (And.intro (HK 83 rfl) (And.intro (HK 84 rfl) (And.intro (HK 85 rfl) (And.intro (HK 86 rfl) (And.intro (HK 87 rfl) (And.intro (HK 88 rfl) (And.intro (HK 89 rfl) (And.intro (HK 90 rfl) (And.intro (HK 91 rfl) (And.intro (HK 92 rfl) (And.intro (HK 93 rfl) (And.intro (HK 94 rfl) (And.intro (HK 95 rfl) (And.intro (HK 103 rfl) (And.intro (HK 105 rfl) (And.intro (HK 106 rfl) (And.intro (HK 107 rfl) (And.intro (HK 109 rfl) (And.intro (HK 110 rfl) (And.intro (HK 111 rfl) (And.intro (HK 114 rfl) (And.intro (HK 116 rfl) (And.intro (HK 117 rfl) (And.intro (HK 118 rfl) (And.intro (HK 120 rfl) (And.intro (HK 121 rfl) (And.intro (HK 122 rfl) (And.intro (HK 123 rfl) (And.intro (HK 124 rfl) (And.intro YK (And.intro UC (And.intro UB (And.intro IY (And.intro IX IW))))))))))))))))))))))))))))))))))))))))))))))))))))))))))))))))))))))))
end Go.Am.Ytlgebaofkolkoaa
