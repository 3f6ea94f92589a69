/- slices.Insert of one: by the contract, whatever room there is. -/
import Derived.Test.YtmoplhbncjicbaaAoS
set_option linter.unusedSimpArgs false
set_option linter.unusedVariables false
set_option linter.defProp false
namespace Go.Am
open Go
/-- What stands where one is put at a place. -/
def insL {α : Type} (l : List α) (k : Nat) (v : α) : List α := l.take k ++ v :: l.drop k
theorem insL_length {α : Type} (l : List α) (k : Nat) (v : α) : (insL l k v).length = l.length + 1 := by simp [insL]; omega
def one8 (k : Int) (len : Nat) : Bool := decide (0 ≤ k ∧ k ≤ (len : Int))
/-- The number of the next block. -/
def nextM : M Nat := ⟨fun s => .ok s.next s, by
  intro s a s' h
  injection h with h1 h2
  subst h1; subst h2
  exact ⟨[], [], [], ⟨Nat.le_refl _, rfl, rfl, rfl, fun _ _ _ => rfl, fun _ h => (by cases h), fun t hn ho hg =>
    ⟨t, by rw [hn], hn, ho, rfl, rfl, rfl, fun id hid => hg id (.inr hid), fun _ _ _ => rfl⟩, id, fun _ h => (by cases h)⟩⟩⟩
theorem next_ok {n : Nat} {s s' : St} (h : nextM.run s = .ok n s') : n = s.next ∧ Same s s' := by
  injection h with h1 h2
  subst h1; subst h2
  exact ⟨rfl, .refl _⟩
theorem wp_next {α : Type} {f : Nat → M α} {h : Hp} {n : Nat} {Q : α → Hp → Nat → Prop} : Wp (nextM.bind f) h n Q ↔ Wp (f n) h n Q := by
  rw [wp_bind_iff]
  constructor
  · intro hw
    obtain ⟨s, a, s', ⟨h1, h2, h3⟩, he, hq⟩ := hw
    have := he.run
    injection this with e1 e2
    subst e1; subst e2
    rw [h1, h2] at hq
    exact hq
  · intro hw
    exact ⟨at0 h n, n, at0 h n, at0_at h n, ⟨rfl, ⟨[], rfl, rfl⟩, rfl⟩, hw⟩
def insGrow (e : TypeId) (i : TI) (at_ : Int) (v : AVal) : M AVal := (ob (decide (at_ = 0))).bind fun _ => grown e i 1 [v]
def insAct (e : TypeId) (i : TI) : List AVal → M AVal
  | [s, .int .i64 at_, .sl xid 0 1 (some 1) 1] => nextM.bind fun nx => (getB xid).bind (rowK fun xc xt => (ob (Nat.blt xid nx && (Nat.blt 0 xc.size && (xt.beq e && oneCell (xc.at 0))))).bind fun _ => match s with
    | .nils => insGrow e i at_ (xc.at 0)
    | .emp => insGrow e i at_ (xc.at 0)
    | .sl id off len cap sz => sameSz sz 1 (match cap with
      | some m => (getB id).bind (rowK fun c t => (ob (Nat.blt id nx && (m.beq 0 && (len.beq 0 && (t.beq e && off.ble c.size))))).bind fun _ => insGrow e i at_ (xc.at 0))
      | none => (getB id).bind (rowK fun c t => (ob (Nat.blt id nx && (off.beq 0 && (t.beq e && (Nat.blt 0 c.size && (len.ble c.size && ((id.beq xid).not && (one8 at_ len && (c.sub 0 len).all oneCell)))))))).bind fun _ =>
          (kill id).bind fun _ => grown e i (len + 1) (insL (c.sub 0 len) at_.toNat (xc.at 0))))
    | _ => fail "Insert")
  | _ => fail "Insert"
/-- What the function does where the room is known. -/
structure InsWalk (E : Env) (f : FuncId) (e : TypeId) (i : TI) : Prop where
  nil : ∀ (h : Hp) (n : Nat) (s : AVal) (xid : Nat) (xc : Cont), (s = .nils ∨ s = .emp ∨ ∃ id off c, s = .sl id off 0 (some 0) 1 ∧ h id = some (.row c e) ∧ off ≤ c.size) → h xid = some (.row xc e) → 0 < xc.size → oneCell (xc.at 0) = true → xid < n →
    Wp (callI E (evalW E) f [s, .int .i64 0, .sl xid 0 1 (some 1) 1]) h n fun v' h' n' => v' = .sl n 0 1 none 1 ∧ n' = n + 1 ∧ ∀ j, h' j = if j = n then some (.row (.l [xc.at 0]) e) else h j
  at_ : ∀ (h : Hp) (n : Nat) (id len C k xid : Nat) (cells : List AVal) (xc : Cont), h id = some (.row (.l cells) e) → cells.length = C → len ≤ C → 0 < C → 2 * (len + 1) * i.bytes ≤ 281474976710656 → len + 1 ≤ 281474976710656 → k ≤ len → (cells.take len).all oneCell = true →
    h xid = some (.row xc e) → 0 < xc.size → oneCell (xc.at 0) = true → xid < n → id < n → xid ≠ id →
    Wp (callI E (evalW E) f [.sl id 0 len (some C) 1, .int .i64 (k : Nat), .sl xid 0 1 (some 1) 1]) h n fun v' h' n' =>
      (v' = .sl id 0 (len + 1) (some C) 1 ∧ n' = n ∧ len + 1 ≤ C ∧ ∃ cells', cells'.length = C ∧ cells'.take (len + 1) = insL (cells.take len) k (xc.at 0) ∧ ∀ j, h' j = if j = id then some (.row (.l cells') e) else h j) ∨
      (v' = .sl n 0 (len + 1) none 1 ∧ n' = n + 1 ∧ ∀ j, h' j = if j = n then some (.row (.l (insL (cells.take len) k (xc.at 0))) e) else h j)

section
variable {P : Program} {f : FuncId} {ρ : Ren} {m : Mem} {s s' : St} {w : World}
/-- A row of which less, or nothing more, is known. -/
theorem Rel.recont {h h' : Nat → Option Blk} (hr : Rel P ρ m h w) {id : Nat} {c c2 : Cont} {t : TypeId} (hg : h id = some (.row c t)) {r : RB} (hρ : ρ id = some r) (hs : c2.size ≤ r.n) (hc : ∀ j, j < c2.size → c2.at j = .junk ∨ (j < c.size ∧ c2.at j = c.at j))
    (hh : ∀ j, h' j = if j = id then some (.row c2 t) else h j) : Rel P ρ m h' w where
  live := fun j b hj => by
    rw [hh j] at hj
    by_cases e : j = id
    · subst e
      rw [if_pos rfl] at hj
      injection hj with hj
      subst hj
      obtain ⟨rb, o, q1, q2, q3, q4⟩ := hr.live j _ hg
      rw [hρ] at q1
      injection q1 with q1
      subst q1
      cases q3 with
      | row _ _ arr fr hs' hn hc' hrr hf =>
        refine ⟨r, _, hρ, q2, .row r c2 t arr fr hs' hn (by omega) (fun j x hj hx => ?_) hf, q4⟩
        rcases hc j hj with e | ⟨h1, h2⟩
        · rw [e]; exact .junk _
        · rw [h2]; exact hrr j x h1 hx
    · rw [if_neg e] at hj
      exact hr.live j b hj
  inj := fun i j b1 b2 r1 r2 h1 h2 h3 h4 h5 => by
    have up : ∀ {k b}, h' k = some b → ∃ b', h k = some b' := fun {k b} hk => by
      rw [hh k] at hk
      by_cases e : k = id
      · subst e; exact ⟨_, hg⟩
      · rw [if_neg e] at hk; exact ⟨_, hk⟩
    obtain ⟨b1', h1'⟩ := up h1
    obtain ⟨b2', h2'⟩ := up h2
    exact hr.inj i j _ _ r1 r2 h1' h2' h3 h4 h5
  mem := hr.mem
theorem Rel.sub {h h' : Nat → Option Blk} (hr : Rel P ρ m h w) (hh : ∀ j b, h' j = some b → h j = some b) : Rel P ρ m h' w :=
  ⟨fun id b hb => hr.live id b (hh id b hb), fun i j b c r r' h1 h2 => hr.inj i j b c r r' (hh i b h1) (hh j c h2), hr.mem⟩
theorem CallR.imp {xs : Array Value} {K K' : Value → World → Prop} (h : CallR P f xs w K) (hk : ∀ v w', K v w' → K' v w') : CallR P f xs w K' := by
  rcases h with ⟨h1, h2⟩ | ⟨v, w', h1, h2⟩
  · exact .inl ⟨h1, h2.mono fun e w' ⟨v, h3, h4⟩ => ⟨v, h3, hk v w' h4⟩⟩
  · exact .inr ⟨v, w', h1, hk v w' h2⟩
theorem rl3' {x y z : AVal} {xs : Array Value} (h : RL ρ m [x, y, z] xs) : ∃ a b c, xs = #[a, b, c] ∧ R ρ m x a ∧ R ρ m y b ∧ R ρ m z c := by
  obtain ⟨l, r⟩ := h
  obtain ⟨xl⟩ := xs
  match xl with
  | [] => simp at l
  | [_] => simp at l
  | [_, _] => simp at l
  | [a, b, c] => exact ⟨a, b, c, rfl, r 0 _ _ rfl rfl, r 1 _ _ rfl rfl, r 2 _ _ rfl rfl⟩
  | _ :: _ :: _ :: _ :: _ => simp at l
theorem rl3_mk {x y z : AVal} {a b c : Value} (ha : R ρ m x a) (hb : R ρ m y b) (hc : R ρ m z c) : RL ρ m [x, y, z] #[a, b, c] := by
  refine ⟨rfl, fun i u v hu hv => ?_⟩
  match i with
  | 0 => simp at hu hv; subst hu; subst hv; exact ha
  | 1 => simp at hu hv; subst hu; subst hv; exact hb
  | 2 => simp at hu hv; subst hu; subst hv; exact hc
  | i + 3 => simp at hu
/-- What a new row leaves. -/
theorem grown_ok {e : TypeId} {i : TI} {need : Nat} {cs : List AVal} {v : AVal} (h : (grown e i need cs).run s = .ok v s') (ho : OkObs s') :
    2 * need * i.bytes ≤ 281474976710656 ∧ need ≤ 281474976710656 ∧ v = .sl s.next 0 need none i.size ∧ s'.next = s.next + 1 ∧ ∀ j, s'.heap.get j = if j = s.next then some (.row (.l cs) e) else s.heap.get j := by
  obtain ⟨_, s1, h1, h2, ho1, _, _⟩ := M.bind_did h ho
  obtain ⟨hb, e1⟩ := ob_ok h1 ho1
  obtain ⟨id, s2, h3, h4⟩ := M.bind_ok h2
  obtain ⟨rfl, rfl⟩ := pure_ok h4
  obtain ⟨rfl, k1, k2⟩ := new_ok h3
  simp only [Bool.and_eq_true] at hb
  rw [e1.next] at k1 k2 ⊢
  rw [e1.heap] at k2
  exact ⟨Nat.le_of_ble_eq_true hb.1, Nat.le_of_ble_eq_true hb.2, rfl, k1, k2⟩
theorem wp_run {α : Type} {mm : M α} {h : Hp} {n : Nat} {Q : α → Hp → Nat → Prop} (hw : Wp mm h n Q) : ∃ a t, mm.run (at0 h n) = .ok a t ∧ OkObs t ∧ Q a t.heap.get t.next := by
  obtain ⟨a, t, he, hq⟩ := wp_at hw (at0_at h n)
  obtain ⟨o, h1, h2⟩ := he.obs
  refine ⟨a, t, he.run, ?_, hq⟩
  unfold OkObs
  rw [h1]
  simpa [at0] using h2
end

theorem sim_ins {E : Env} {f : FuncId} {e : TypeId} {i : TI} (W : InsWalk E f e i) (h1 : i.size = 1) : SimCall E.P f (insAct e i) := by
  intro args s v s' h ho ρ m w xs hr hfr hx
  unfold insAct at h
  split at h
  · rename_i S at_ xid
    obtain ⟨nx, s0, g01, g02⟩ := M.bind_ok h
    obtain ⟨rfl, e0⟩ := next_ok g01
    obtain ⟨xb, s1, g1, g2, go1, _, gn1⟩ := M.bind_did g02 ho
    obtain ⟨hgx, e1⟩ := get_ok g1
    rw [e0.heap] at hgx
    obtain ⟨xc, xt, rfl, g3⟩ := row_ok g2
    obtain ⟨_, s2, g4, g5, go2, _, gn2⟩ := M.bind_did g3 ho
    obtain ⟨hb, e2⟩ := ob_ok g4 go2
    simp only [Bool.and_eq_true] at hb
    obtain ⟨hxn, hxc, hxt, hone⟩ := hb
    have hxn : xid < s.next := Nat.le_of_ble_eq_true hxn
    have hxc : 0 < xc.size := Nat.le_of_ble_eq_true hxc
    obtain rfl := Nat.eq_of_beq_eq_true hxt
    have e12 := (e0.trans e1).trans e2
    obtain ⟨X, K, Y, rfl, rX, rK, rY⟩ := rl3' hx
    obtain rfl := rK.int_inv
    have fresh_live : ∀ {j b}, s.heap.get j = some b → s.next < s'.next → j ≠ s.next := fun {j b} hj hn e => by
      subst e
      obtain ⟨rb, o, q1, _⟩ := hr.live s.next b hj
      rw [hfr s.next ⟨Nat.le_refl _, hn⟩] at q1
      cases q1
    have new1 : ∀ {S' : AVal}, R ρ m S' X → (S' = .nils ∨ S' = .emp ∨ ∃ id off c, S' = .sl id off 0 (some 0) 1 ∧ s.heap.get id = some (.row c xt) ∧ off ≤ c.size) → ∀ s3, Same s s3 → (insGrow xt i at_ (xc.at 0)).run s3 = .ok v s' →
        CallR E.P f #[X, .int .i64 at_, Y] w fun x w' => ∃ ρ', Post E.P ρ m s w ρ' m s' w' ∧ R ρ' m v x := by
      intro S' rS hS s3 e3 hg
      obtain ⟨_, s4, k1, k2, ko4, _, _⟩ := M.bind_did hg ho
      obtain ⟨hat, e4⟩ := ob_ok k1 ko4
      have hat := of_decide_eq_true hat
      subst hat
      obtain ⟨_, _, rfl, k3, k4⟩ := grown_ok k2 ho
      have e34 := e3.trans e4
      rw [e34.next] at k3 k4 ⊢
      rw [e34.heap] at k4
      obtain ⟨v', t, r1, r2, rfl, r4, r5⟩ := wp_run (W.nil s.heap.get s.next S' xid xc hS hgx hxc hone hxn)
      have rr : Rel E.P ρ m (at0 s.heap.get s.next).heap.get w := hr.congr fun _ => rfl
      refine (callI_sim evalW_sim f _ _ _ _ r1 r2 ρ m w _ rr (fun id hid => hfr id ⟨hid.1, by have := hid.2; omega⟩) (rl3_mk rS (.int _ _) rY)).imp fun x w' ⟨ρ', p, q⟩ => ?_
      refine ⟨ρ', ⟨p.ren, fun id hid => (p.new id hid).imp_right fun z => ⟨z.1, by have := z.2; omega⟩, p.mem, p.rel.sub fun j b hj => ?_, p.fr, by omega⟩, ?_⟩
      · rw [k4] at hj; rw [r5]; exact hj
      · rw [h1]; exact q
    split at g5
    · exact new1 rX (.inl rfl) s2 e12 g5
    · exact new1 rX (.inr (.inl rfl)) s2 e12 g5
    · rename_i id off len cap sz
      obtain ⟨rfl, g6⟩ := sameSz_ok g5
      cases cap with
      | some mm =>
        obtain ⟨b3, s3, g7, g8, go3, _, _⟩ := M.bind_did g6 ho
        obtain ⟨hg3, e3⟩ := get_ok g7
        obtain ⟨c, t, rfl, g9⟩ := row_ok g8
        obtain ⟨_, s4, g10, g11, go4, _, _⟩ := M.bind_did g9 ho
        obtain ⟨hb, e4⟩ := ob_ok g10 go4
        simp only [Bool.and_eq_true] at hb
        obtain ⟨_, b1, b2, b3, b4⟩ := hb
        obtain rfl := Nat.eq_of_beq_eq_true b1
        obtain rfl := Nat.eq_of_beq_eq_true b2
        obtain rfl := Nat.eq_of_beq_eq_true b3
        rw [e12.heap] at hg3
        exact new1 rX (.inr (.inr ⟨id, off, c, rfl, hg3, Nat.le_of_ble_eq_true b4⟩)) s4 ((e12.trans e3).trans e4) g11
      | none =>
        obtain ⟨b3, s3, g7, g8, go3, _, _⟩ := M.bind_did g6 ho
        obtain ⟨hg3, e3⟩ := get_ok g7
        obtain ⟨c, t, rfl, g9⟩ := row_ok g8
        obtain ⟨_, s4, g10, g11, go4, _, _⟩ := M.bind_did g9 ho
        obtain ⟨hb, e4⟩ := ob_ok g10 go4
        simp only [Bool.and_eq_true] at hb
        obtain ⟨b0, b1, b2, b3, b4, b5, b6, b7⟩ := hb
        have b0 : id < s.next := Nat.le_of_ble_eq_true b0
        obtain rfl := Nat.eq_of_beq_eq_true b1
        obtain rfl := Nat.eq_of_beq_eq_true b2
        have b3 : 0 < c.size := Nat.le_of_ble_eq_true b3
        have b4 := Nat.le_of_ble_eq_true b4
        have b5 : id ≠ xid := fun q => by subst q; simp at b5
        obtain ⟨b6, b8⟩ := of_decide_eq_true b6
        obtain ⟨k, rfl⟩ := Int.eq_ofNat_of_zero_le b6
        rw [e12.heap] at hg3
        have e14 := (e12.trans e3).trans e4
        obtain ⟨_, s5, g12, g13⟩ := M.bind_ok g11
        obtain ⟨_, k1, k2⟩ := kill_ok g12
        obtain ⟨c1, c2, rfl, k3, k4⟩ := grown_ok g13 ho
        rw [k1, e14.next] at k3 k4 ⊢
        have k2 : ∀ j, s5.heap.get j = if j = id then none else s.heap.get j := fun j => by rw [k2, e14.heap]
        simp only [k2, Int.toNat_natCast] at k4
        have nid := fresh_live hg3 (by omega)
        have nxid := fresh_live hgx (by omega)
        obtain ⟨r, C, hρ, rfl, hC⟩ : ∃ r C, ρ id = some r ∧ X = .slice (some ⟨r.b, 0, none⟩) len C ∧ C = r.n ∧ r.s = 1 ∧ len ≤ C := by
          cases rX with
          | slw _ _ _ C _ r hρ hl hs hc => exact ⟨r, C, hρ, rfl, by omega, hs, hl⟩
          | sl0 _ _ _ _ ad hc hn =>
            obtain ⟨r, q1, q2⟩ := hn rfl
            obtain ⟨arr, fr, _, _, p3, p4, _⟩ := hr.row hg3 q1
            omega
        obtain ⟨rfl, hs1, hlC⟩ := hC
        obtain ⟨arr, fr, p1, p2, p3, p4, p5, p6, p7⟩ := hr.row hg3 hρ
        let cells : List AVal := c.sub 0 c.size ++ List.replicate (r.n - c.size) .junk
        let cc : Cont := .l cells
        let hh : Hp := fun j => if j = id then some (.row cc t) else s.heap.get j
        have hl0 : (c.sub 0 c.size).length = c.size := Cont.sub_length (by omega)
        have hcl : cells.length = r.n := by
          show (c.sub 0 c.size ++ List.replicate (r.n - c.size) AVal.junk).length = _
          rw [List.length_append, hl0, List.length_replicate]; omega
        have hcg : ∀ j, j < c.size → cells[j]? = some (c.at j) := fun j hj => by
          show (c.sub 0 c.size ++ List.replicate (r.n - c.size) AVal.junk)[j]? = _
          rw [List.getElem?_append_left (by omega), Cont.sub_get (c := c) (by omega) hj, Nat.zero_add]
        have hcs : cells.take len = c.sub 0 len := by
          apply List.ext_getElem?
          intro j
          by_cases hj : j < len
          · rw [List.getElem?_take, if_pos hj, hcg j (by omega), Cont.sub_get (c := c) (by omega) hj, Nat.zero_add]
          · rw [List.getElem?_eq_none (by rw [List.length_take]; omega), List.getElem?_eq_none (by rw [Cont.sub_length (by omega)]; omega)]
        have rr : Rel E.P ρ m (at0 hh s.next).heap.get w := by
          refine hr.recont (c2 := cc) hg3 hρ (by show cells.length ≤ _; omega) (fun j hj => ?_) (fun j => rfl)
          have hj : j < cells.length := hj
          by_cases q : j < c.size
          · refine .inr ⟨q, ?_⟩
            show nth cells j .junk = _
            have := nthq_get cells j hj
            rw [hcg j q] at this
            injection this with this
            exact this.symm
          · refine .inl ?_
            show nth cells j .junk = _
            have := nthq_get cells j hj
            rw [show cells = c.sub 0 c.size ++ List.replicate (r.n - c.size) AVal.junk from rfl, List.getElem?_append_right (by omega), List.getElem?_replicate, if_pos (by omega)] at this
            injection this with this
            exact this.symm
        have hgx' : hh xid = some (.row xc t) := by show (if xid = id then _ else _) = _; rw [if_neg (Ne.symm b5)]; exact hgx
        obtain ⟨v', u, r1, r2, r3⟩ := wp_run (W.at_ hh s.next id len r.n k xid cells xc (if_pos rfl) hcl hlC (by omega) c1 c2 (by omega) (by rw [hcs]; exact b7) hgx' hxc hone hxn b0 (Ne.symm b5))
        rw [hcs] at r3
        have hun : u.next ≤ s.next + 1 := by rcases r3 with ⟨_, q, _⟩ | ⟨_, q, _⟩ <;> omega
        refine (callI_sim evalW_sim f _ _ _ _ r1 r2 ρ m w _ rr (fun id hid => hfr id ⟨hid.1, by have := hid.2; omega⟩) (rl3_mk (.slx id 0 len r.n 1 r hρ hlC) (.int _ _) rY)).imp fun x w' ⟨ρ', p, q⟩ => ?_
        rcases r3 with ⟨rfl, q2, q3, c', q4, q5, q6⟩ | ⟨rfl, q2, q6⟩
        · have hρ' : ρ' id = some r := p.ren _ _ hρ
          have hnew : ρ' s.next = none := by
            cases he : ρ' s.next with
            | none => rfl
            | some z =>
              rcases p.new s.next (by rw [he]; simp) with y | y
              · exact absurd (hfr s.next ⟨Nat.le_refl _, by omega⟩) y
              · have := y.2; simp only [q2] at this; exact absurd this (Nat.lt_irrefl _)
          have hlen : (insL (c.sub 0 len) k (xc.at 0)).length = len + 1 := by rw [insL_length, Cont.sub_length (by omega)]
          have rel2 := p.rel.recont (id := id) (c := .l c') (c2 := .l (insL (c.sub 0 len) k (xc.at 0))) (t := t) (r := r) (h' := fun j => if j = id then some (.row (.l (insL (c.sub 0 len) k (xc.at 0))) t) else u.heap.get j) (by rw [q6, if_pos rfl]) hρ'
            (by show (insL (c.sub 0 len) k (xc.at 0)).length ≤ _; omega)
            (fun j hj => by
              have hj : j < len + 1 := by rw [← hlen]; exact hj
              have hj2 : j < c'.length := by omega
              refine .inr ⟨hj2, ?_⟩
              show nth (insL (c.sub 0 len) k (xc.at 0)) j .junk = nth c' j .junk
              have z1 := nthq_get (insL (c.sub 0 len) k (xc.at 0)) j (by omega)
              have z2 := nthq_get c' j hj2
              rw [← q5, List.getElem?_take, if_pos hj, z2] at z1
              injection z1 with z1
              rw [q5] at z1
              exact z1.symm) (fun j => rfl)
          have rel3 := rel2.rename (h' := s'.heap.get) (id := id) (id' := s.next) (b := .row (.l (insL (c.sub 0 len) k (xc.at 0))) t) (r := r) (if_pos rfl) hρ' hnew (fun j => by
            rw [k4 j]
            by_cases y1 : j = s.next
            · simp [y1]
            · by_cases y2 : j = id
              · simp [y1, y2]
              · simp only [if_neg y1, if_neg y2]
                rw [q6 j, if_neg y2]
                exact (if_neg y2).symm)
          have le2 : RenLe ρ' (ρ'.put s.next r) := RenLe.put hnew
          refine ⟨ρ'.put s.next r, ⟨fun j z hz => le2 _ _ (p.ren j z hz), fun j hj => ?_, p.mem, rel3, p.fr, by omega⟩, ?_⟩
          · by_cases y : j = s.next
            · exact .inr ⟨by omega, by omega⟩
            · have : ρ' j ≠ none := by unfold Ren.put at hj; rwa [if_neg y] at hj
              exact (p.new j this).imp_right fun z => ⟨z.1, by have := z.2; simp only [q2] at this; omega⟩
          · cases q with
            | slx _ _ _ C2 _ r2 hρ2 hl2 =>
              rw [hρ'] at hρ2
              injection hρ2 with hρ2
              subst hρ2
              rw [h1]
              exact .slw s.next 0 (len + 1) _ 1 r (by unfold Ren.put; rw [if_pos rfl]) hl2 hs1 (by omega)
        · refine ⟨ρ', ⟨p.ren, fun id hid => (p.new id hid).imp_right fun z => ⟨z.1, by have := z.2; omega⟩, p.mem, p.rel.sub fun j b hj => ?_, p.fr, by omega⟩, ?_⟩
          · rw [k4] at hj
            rw [q6]
            by_cases y1 : j = s.next
            · rw [if_pos y1] at hj ⊢; exact hj
            · rw [if_neg y1] at hj ⊢
              by_cases y2 : j = id
              · rw [if_pos y2] at hj; cases hj
              · rw [if_neg y2] at hj
                show (if j = id then _ else _) = _
                rw [if_neg y2]; exact hj
          · rw [h1]; exact q
    · exact (fail_ok g5).elim
  · exact (fail_ok h).elim
/-- A function that does what an action does that changes nothing. -/
theorem sim_same {E : Env} {f : FuncId} {act : List AVal → M AVal} (W : ∀ args s v s', (act args).run s = .ok v s' → OkObs s' → Same s s' ∧ Wp (callI E (evalW E) f args) s.heap.get s.next fun v' h' n' => v' = v ∧ h' = s.heap.get ∧ n' = s.next) : SimCall E.P f act := by
  intro args s v s' h ho ρ m w xs hr hfr hx
  obtain ⟨e, hw⟩ := W args s v s' h ho
  obtain ⟨v', t, r1, r2, rfl, r4, r5⟩ := wp_run hw
  have rr : Rel E.P ρ m (at0 s.heap.get s.next).heap.get w := hr.congr fun _ => rfl
  have no : ∀ id, ¬ New (at0 s.heap.get s.next) t id := fun id hid => by
    have h1 : s.next ≤ id := hid.1
    have h2 := hid.2
    omega
  refine (callI_sim evalW_sim f _ _ _ _ r1 r2 ρ m w _ rr (fun id hid => absurd hid (no id)) hx).imp fun x w' ⟨ρ', p, q⟩ => ?_
  refine ⟨ρ', ⟨p.ren, fun id hid => (p.new id hid).elim .inl fun z => absurd z (no id), p.mem, p.rel.congr fun id => ?_, p.fr, by rw [e.next]; exact Nat.le_refl _⟩, q⟩
  rw [e.heap, r4]
theorem byteL_run {cs : List AVal} {l : List UInt8} {s s' : St} (h : (byteL cs).run s = .ok l s') (ho : OkObs s') : Same s s' ∧ cs.all isByte = true ∧ l = cs.map toByte := by
  unfold byteL at h
  obtain ⟨_, s1, h1, h2, ho1, _, _⟩ := M.bind_did h ho
  obtain ⟨hall, e1⟩ := ob_ok h1 ho1
  obtain ⟨rfl, rfl⟩ := pure_ok h2
  exact ⟨e1, hall, rfl⟩
theorem bytesA_run {a : AVal} {l : List UInt8} {s s' : St} (h : (bytesA a).run s = .ok l s') (ho : OkObs s') : Same s s' ∧ ∀ {α : Type} {f : List UInt8 → M α} {n : Nat} {Q : α → Hp → Nat → Prop}, Wp (f l) s.heap.get n Q → Wp ((bytesA a).bind f) s.heap.get n Q := by
  cases a with
  | nils => obtain ⟨rfl, rfl⟩ := pure_ok h; exact ⟨.refl _, fun hw => by simp only [bytesA, bind_pure]; exact hw⟩
  | emp => obtain ⟨rfl, rfl⟩ := pure_ok h; exact ⟨.refl _, fun hw => by simp only [bytesA, bind_pure]; exact hw⟩
  | str l => obtain ⟨rfl, rfl⟩ := pure_ok h; exact ⟨.refl _, fun hw => by simp only [bytesA, bind_pure]; exact hw⟩
  | sl id off len cap sz =>
    obtain ⟨rfl, h1⟩ := sameSz_ok h
    obtain ⟨cs, s1, h2, h3, ho1, _, _⟩ := M.bind_did h1 ho
    obtain ⟨e3, q1, q2⟩ := byteL_run h3 ho
    unfold readCells at h2
    obtain ⟨b, s2, h4, h5, ho2, _, _⟩ := M.bind_did h2 ho1
    obtain ⟨hg, e1⟩ := get_ok h4
    obtain ⟨c, t, rfl, h6⟩ := row_ok h5
    obtain ⟨_, s3, h7, h8, ho3, _, _⟩ := M.bind_did h6 ho1
    obtain ⟨hb, e2⟩ := ob_ok h7 ho3
    obtain ⟨rfl, rfl⟩ := pure_ok h8
    refine ⟨(e1.trans e2).trans e3, fun hw => ?_⟩
    subst q2
    simp only [bytesA, readCells, byteL, sameSz, bind_assoc, wp_get, hg, Option.some.injEq, exists_eq_left', rowK, wp_ob, show (Nat.beq 1 1) = true from rfl, bind_pure, hb, q1, true_and]
    exact hw
  | isl g sz off len =>
    obtain ⟨rfl, h1⟩ := sameSz_ok h
    obtain ⟨cs, s1, h2, h3, ho1, _, _⟩ := M.bind_did h1 ho
    obtain ⟨e3, q1, q2⟩ := byteL_run h3 ho
    unfold readCells at h2
    obtain ⟨_, s3, h7, h8, ho3, _, _⟩ := M.bind_did h2 ho1
    obtain ⟨hb, e2⟩ := ob_ok h7 ho3
    obtain ⟨rfl, rfl⟩ := pure_ok h8
    refine ⟨e2.trans e3, fun hw => ?_⟩
    subst q2
    simp only [bytesA, readCells, byteL, sameSz, bind_assoc, wp_ob, show (Nat.beq 1 1) = true from rfl, bind_pure, hb, q1, true_and]
    exact hw
  | _ => exact (fail_ok h).elim
theorem compare_run {x y : AVal} {v : AVal} {s s' : St} (h : (compareAct [x, y]).run s = .ok v s') (ho : OkObs s') : Same s s' ∧ Wp (compareAct [x, y]) s.heap.get s.next fun v' h' n' => v' = v ∧ h' = s.heap.get ∧ n' = s.next := by
  unfold compareAct at h
  obtain ⟨a, s1, h1, h2, ho1, _, _⟩ := M.bind_did h ho
  obtain ⟨b, s2, h3, h4, ho2, _, _⟩ := M.bind_did h2 ho
  obtain ⟨rfl, rfl⟩ := pure_ok h4
  obtain ⟨e1, q1⟩ := bytesA_run h1 ho1
  obtain ⟨e2, q2⟩ := bytesA_run h3 ho2
  refine ⟨e1.trans e2, ?_⟩
  unfold compareAct
  refine q1 ?_
  rw [e1.heap] at q2
  exact q2 (wp_pure.2 ⟨rfl, rfl, rfl⟩)
/-- bytes.Compare of two, as what it is. -/
theorem compare_rd {h : Hp} {n : Nat} {x y : AVal} {a b : List UInt8} (hx : Bytes h x a) (hy : Bytes h y b) : Rd (compareAct [x, y]) h n (rid y ++ rid x) (.int .i64 (Lib.compareBytes a b)) := by
  have one : ∀ {v : AVal} {l : List UInt8}, Bytes h v l → Rd (bytesA v) h n (rid v) l := fun {v l} hb => by
    cases hb with
    | nils => exact Rd.pure _
    | isl g off l hf =>
      simp only [bytesA, readCells, byteL, sameSz, show (Nat.beq 1 1) = true from rfl]
      rw [cellsOf_eq g l.length off (l.map u8) (by simp) (fun j hj => by rw [hf j (by simpa using hj)]; simp)]
      refine Rd.bind (i1 := []) (i2 := []) (Rd.bind (i1 := []) (i2 := []) (Rd.ob (ble_of (Nat.le_refl _))) (Rd.pure _)) ?_
      refine Rd.bind (i1 := []) (i2 := []) (Rd.ob (allByte l)) ?_
      rw [toByte_u8]
      exact Rd.pure _
    | sl id off cap c e l hh hs hc =>
      have := Cont.sub_eq (c := c) (off := off) (l := l.map u8) (by simpa using hs) (fun j hj => by rw [hc j (by simpa using hj)]; simp)
      simp only [List.length_map] at this
      simp only [bytesA, readCells, byteL, sameSz, show (Nat.beq 1 1) = true from rfl]
      refine Rd.bind (i1 := [id]) (i2 := []) (a := l.map u8) (Rd.bind (i1 := [id]) (i2 := []) (Rd.get hh) ?_) ?_
      · simp only [rowK]
        refine Rd.bind (i1 := []) (i2 := []) (Rd.ob (ble_of hs)) ?_
        rw [this]
        exact Rd.pure _
      · refine Rd.bind (i1 := []) (i2 := []) (Rd.ob (allByte l)) ?_
        rw [toByte_u8]
        exact Rd.pure _
  unfold compareAct
  refine Rd.bind (i2 := rid y) (one hx) ?_
  exact Rd.bind (i1 := rid y) (i2 := []) (one hy) (Rd.pure _)
#print axioms sim_ins
theorem hk_gen {E : Env} (f : FuncId) : ∀ {l : List (Hook E.P)} {args : List AVal} {k : M AVal}, (l.all fun x => !(x.f.beq f)) = true → hookAt E l f args k = k
  | [], _, _, _ => rfl
  | x :: l, _, _, h => by
    rw [List.all_cons, Bool.and_eq_true] at h
    unfold hookAt
    cases c : x.f.beq f with
    | true => rw [c] at h; cases h.1
    | false => exact hk_gen f h.2
theorem nb_gen {P : Program} {l : List (CHook P)} (f : FuncId) (h : (l.all fun x => !(x.fn.beq f)) = true) : ∀ k, noHook l f k = true := fun k => by
  unfold noHook
  rw [List.all_eq_true] at h ⊢
  intro x hx
  have := h x hx
  cases c : x.fn.beq f with
  | true => rw [c] at this; cases this
  | false => rfl
/-- Runs of values. -/
def runL : List (Nat × AVal) → List AVal
  | [] => []
  | x :: l => List.replicate x.1 x.2 ++ runL l
/-- Runs of true and false. -/
def rle : Bool → List Nat → List Bool
  | _, [] => []
  | b, n :: l => List.replicate n b ++ rle (!b) l
abbrev T := true
abbrev F := false
end Go.Am
