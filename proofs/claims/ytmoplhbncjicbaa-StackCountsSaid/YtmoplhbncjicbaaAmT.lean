/- The abstract machine's operations do what the model's do: append, copy, make. -/
import Derived.Test.YtmoplhbncjicbaaAmS
set_option linter.unusedSimpArgs false
set_option linter.unusedVariables false
namespace Go.Am
open Go

variable {E : Env}
section
variable {ρ : Ren} {m : Mem} {s s' : St} {w : World} {v : AVal}

theorem lenOf_sim {P : Program} {a : AVal} {n : Nat} (h : (lenOf a).run s = .ok n s') {x : Value} (hx : R ρ m a x) : s' = s ∧ (Builtin.lenOf x).run P w = .ok n w := by
  unfold lenOf at h
  split at h
  · obtain ⟨rfl, rfl⟩ := pure_ok h; cases hx; exact ⟨rfl, rfl⟩
  · obtain ⟨rfl, rfl⟩ := pure_ok h; cases hx; exact ⟨rfl, rfl⟩
  · obtain ⟨rfl, rfl⟩ := pure_ok h; cases hx <;> exact ⟨rfl, rfl⟩
  · obtain ⟨rfl, rfl⟩ := pure_ok h; cases hx <;> exact ⟨rfl, rfl⟩
  · obtain ⟨rfl, rfl⟩ := pure_ok h; cases hx; exact ⟨rfl, rfl⟩
  · exact (fail_ok h).elim
theorem byteCells_length : ∀ l : List UInt8, (byteCells l).length = l.length
  | [] => rfl
  | b :: l => by simp [byteCells, byteCells_length l]
theorem byteCells_get : ∀ (l : List UInt8) (i : Nat), (byteCells l)[i]? = (l[i]?).map fun b => AVal.int .u8 (b.toNat : Int)
  | [], i => by simp [byteCells]
  | b :: l, 0 => by simp [byteCells]
  | b :: l, i + 1 => by simp [byteCells, byteCells_get l i]
theorem byteCells_sim (l : List UInt8) : RL ρ m (byteCells l) (l.toArray.map fun b => .int .u8 b.toNat) := by
  refine ⟨by simp [byteCells_length], fun i a b ha hb => ?_⟩
  rw [byteCells_get] at ha
  simp only [Array.getElem?_map, List.getElem?_toArray] at hb
  cases hl : l[i]? with
  | none => rw [hl] at ha; cases ha
  | some c =>
    rw [hl] at ha hb
    simp only [Option.map_some, Option.some.injEq] at ha hb
    subst ha; subst hb
    exact .int _ _
theorem RL.nil : RL ρ m [] #[] := ⟨rfl, fun i _ _ h => by simp at h⟩
theorem RL.append {a b : List AVal} {x y : Array Value} (h : RL ρ m a x) (h' : RL ρ m b y) : RL ρ m (a ++ b) (x ++ y) := by
  refine ⟨by simp [h.len, h'.len], fun i c d hc hd => ?_⟩
  by_cases hi : i < a.length
  · rw [List.getElem?_append_left hi] at hc
    rw [Array.getElem?_append_left (by rw [← h.len]; exact hi)] at hd
    exact h.at_ i c d hc hd
  · rw [List.getElem?_append_right (by omega)] at hc
    rw [Array.getElem?_append_right (by rw [← h.len]; omega), ← h.len] at hd
    exact h'.at_ _ c d hc hd
theorem sliceCells_sim {P : Program} {a : AVal} {sz n : Nat} {cs : List AVal} (h : (sliceCells sz n a).run s = .ok cs s') (ho : OkObs s') (hr : Rel P ρ m s.heap.get w) {x : Value} (hx : R ρ m a x) :
    ∃ xs, (Builtin.firstCells sz n x).run P w = .ok xs w ∧ RL ρ m cs xs ∧ cs.length = n * sz ∧ Same s s' := by
  unfold sliceCells at h
  split at h
  · obtain ⟨_, s1, h1, h2, ho1, _, _⟩ := M.bind_did h ho
    obtain ⟨hb, e⟩ := ob_ok h1 ho1
    obtain ⟨rfl, rfl⟩ := pure_ok h2
    obtain rfl := Nat.eq_of_beq_eq_true hb
    cases hx
    exact ⟨#[], rfl, .nil, by simp, e⟩
  · obtain ⟨_, s1, h1, h2, ho1, _, _⟩ := M.bind_did h ho
    obtain ⟨hb, e⟩ := ob_ok h1 ho1
    obtain ⟨rfl, rfl⟩ := pure_ok h2
    obtain rfl := Nat.eq_of_beq_eq_true hb
    cases hx with
    | emp ad =>
      refine ⟨#[], ?_, .nil, by simp, e⟩
      cases ad with
      | none => rfl
      | some ad => simp only [Builtin.firstCells, Nat.zero_mul]; rfl
  · rename_i id off len cap z
    obtain ⟨hz, h1⟩ := sameSz_ok h
    subst hz
    obtain ⟨b, s1, h2, h3, ho1, _, _⟩ := M.bind_did h1 ho
    obtain ⟨hg, e1⟩ := get_ok h2
    obtain ⟨c, t, rfl, h4⟩ := row_ok h3
    obtain ⟨_, s2, h5, h6, ho2, _, _⟩ := M.bind_did h4 ho
    obtain ⟨hb1, e2⟩ := ob_ok h5 ho2
    obtain ⟨_, s3, h7, h8, ho3, _, _⟩ := M.bind_did h6 ho
    obtain ⟨hb2, e3⟩ := ob_ok h7 ho3
    obtain ⟨rfl, rfl⟩ := pure_ok h8
    have hle := Nat.le_of_ble_eq_true hb2
    have hnl := Nat.le_of_ble_eq_true hb1
    have hread : ∀ r, ρ id = some r → ∃ xs, (loadCells ⟨r.b, off, none⟩ (n * z)).run P w = .ok xs w ∧ RL ρ m (c.sub off (n * z)) xs := by
      intro r hρ
      have hrd : (readCells (.ptr id off) (n * z)).run s = .ok (c.sub off (n * z)) { s with rds := id :: s.rds } := by
        have : (off + n * z).ble c.size = true := hb2
        simp only [readCells, M.bind, bindF, getB, getF, hg, rowK, ob, obF, M.pure, this]
      have ho' : OkObs { s with rds := id :: s.rds } := by
        have := (M.bind_ok h1)
        obtain ⟨_, _, _, d⟩ := ((getB id).bind (rowK fun c _ => (ob (n.ble len)).bind fun _ => (ob ((off + n * z).ble c.size)).bind fun _ => M.pure (c.sub off (n * z)))).loc _ _ _ h1
        have := ho.of d.obs
        simpa [OkObs] using this
      obtain ⟨ad, xs, e, k1, k2, k3, k4, k5⟩ := readCells_sim hrd ho' hr (.ptr id off r hρ)
      injection e with e
      injection e with e
      subst e
      exact ⟨xs.toArray, run_loadCells' k1 k2, k3⟩
    have hlen := Cont.sub_length hle
    cases hx with
    | slx _ _ _ cc _ r hρ hl =>
      obtain ⟨xs, k1, k2⟩ := hread r hρ
      exact ⟨xs, by simp only [Builtin.firstCells, k1], k2, hlen, (e1.trans e2).trans e3⟩
    | slw _ _ _ cc _ r hρ hl hs hc =>
      obtain ⟨xs, k1, k2⟩ := hread r hρ
      exact ⟨xs, by simp only [Builtin.firstCells, k1], k2, hlen, (e1.trans e2).trans e3⟩
    | sl0 _ _ _ _ ad hc hn =>
      have hn0 : n = 0 := by omega
      subst hn0
      refine ⟨#[], ?_, ?_, hlen, (e1.trans e2).trans e3⟩
      · simp only [Builtin.firstCells, Nat.zero_mul]; rfl
      · rw [Nat.zero_mul] at hlen ⊢
        rw [List.eq_nil_of_length_eq_zero hlen]; exact .nil
  · rename_i g z off len
    obtain ⟨hz, h1⟩ := sameSz_ok h
    subst hz
    obtain ⟨_, s1, h2, h3, ho1, _, _⟩ := M.bind_did h1 ho
    obtain ⟨hb, e⟩ := ob_ok h2 ho1
    obtain ⟨rfl, rfl⟩ := pure_ok h3
    have hnl := Nat.le_of_ble_eq_true hb
    cases hx with
    | isl _ _ _ _ b o c g' hg hrr hl =>
      have hmul : n * z ≤ len * z := Nat.mul_le_mul_right _ hnl
      have hrd : (readCells (.ip g (off + len * z) off) (n * z)).run s = .ok (cellsOf g off (n * z)) s := by
        have : (off + n * z).ble (off + len * z) = true := by simpa using hmul
        simp only [readCells, M.bind, bindF, ob, obF, M.pure, this]
      have ho' : OkObs s := by
        obtain ⟨_, _, _, d⟩ := ((ob (n.ble len)).bind fun _ => M.pure (cellsOf g off (n * z))).loc _ _ _ h1
        exact ho.of d.obs
      obtain ⟨ad, xs, e', k1, k2, k3, k4, k5⟩ := readCells_sim hrd ho' hr (.ip g (off + len * z) off b o g' hg hrr)
      injection e' with e'
      injection e' with e'
      subst e'
      exact ⟨xs.toArray, by simp only [Builtin.firstCells, run_loadCells' k1 k2], k3, k4, e⟩
    | isl0 _ _ _ c ad =>
      have hn0 : n = 0 := by omega
      subst hn0
      refine ⟨#[], ?_, ?_, by simp [cellsOf_length], e⟩
      · simp only [Builtin.firstCells, Nat.zero_mul]; rfl
      · rw [Nat.zero_mul]; exact .nil
  · rename_i l
    obtain ⟨hz, h1⟩ := sameSz_ok h
    subst hz
    obtain ⟨_, s1, h2, h3, ho1, _, _⟩ := M.bind_did h1 ho
    obtain ⟨hb, e⟩ := ob_ok h2 ho1
    obtain ⟨rfl, rfl⟩ := pure_ok h3
    have hnl := Nat.le_of_ble_eq_true hb
    obtain rfl := hx.str_inv
    refine ⟨(l.take n).toArray.map fun b => .int .u8 b.toNat, ?_, byteCells_sim _, by simp [byteCells_length]; omega, e⟩
    simp only [Builtin.firstCells, getE_take_drop, List.drop_zero, Sem.run_pure]
  · exact (fail_ok h).elim

theorem growBy_le (need : Nat) : ∀ (k c : Nat), 256 ≤ c → c ≤ 2 * need → Builtin.growBy need k c ≤ 2 * need
  | 0, c, _, h => h
  | k + 1, c, h1, h2 => by
    simp only [Builtin.growBy]
    split
    · exact h2
    · exact growBy_le need k _ (by omega) (by omega)
theorem nextslicecap_le {need cap : Nat} (h : cap < need) : Builtin.nextslicecap need cap ≤ 2 * need := by
  unfold Builtin.nextslicecap
  split
  · omega
  · split
    · omega
    · exact growBy_le need 4 cap (by omega) (by omega)

/-- A slice that grows into new memory. -/
theorem grown_sim {e : TypeId} {i : TI} {need : Nat} {cs : List AVal} (h : (grown e i need cs).run s = .ok v s') (ho : OkObs s') (hr : Rel E.P ρ m s.heap.get w) (hf : Fresh ρ s s') (hi : TOk E.P e i) {xs : Array Value} (hx : RL ρ m cs xs)
    (hl : cs.length = need * i.size) (newCap : Nat) (hcap : need ≤ newCap) (zx : Array Value) (hz : zx.size = i.size) :
    2 * need * i.bytes ≤ 281474976710656 ∧ need ≤ 281474976710656 ∧
    ∃ ρ', Post E.P ρ m s w ρ' m s' (w.alloc (.cells (xs ++ Builtin.zeroCells zx (newCap - need)) e)) ∧ R ρ' m v (.slice (some ⟨w.heap.size, 0, none⟩) need newCap) := by
  obtain ⟨_, s1, h1, h2, ho1, _, _⟩ := M.bind_did h ho
  obtain ⟨hb, e1⟩ := ob_ok h1 ho1
  obtain ⟨id, s2, h3, h4⟩ := M.bind_ok h2
  obtain ⟨rfl, rfl⟩ := pure_ok h4
  simp only [Bool.and_eq_true] at hb
  have hb1 := Nat.le_of_ble_eq_true hb.1
  have hb2 := Nat.le_of_ble_eq_true hb.2
  have hr1 : Rel E.P ρ m s1.heap.get w := hr.congr (fun id => by rw [e1.heap])
  have hf1 : Fresh ρ s1 s' := fun id hid => hf id ⟨by have := hid.1; rw [e1.next] at this; exact this, hid.2⟩
  have hzs : (Builtin.zeroCells zx (newCap - need)).size = (newCap - need) * i.size := by simp [Builtin.zeroCells, hz]
  obtain ⟨eid, hp⟩ := newRow_sim h3 hr1 hf1 hi (arr := xs ++ Builtin.zeroCells zx (newCap - need)) (by simp [Cont.size, hx.len]) (fun j y hj hy => by
    simp only [Cont.size] at hj
    rw [Array.getElem?_append_left (by rw [← hx.len]; exact hj)] at hy
    simp only [Cont.at, nth_get, List.getElem?_eq_getElem hj, Option.getD_some]
    exact hx.at_ j _ y (List.getElem?_eq_getElem hj) hy)
  have hsize : (xs ++ Builtin.zeroCells zx (newCap - need)).size = newCap * i.size := by
    rw [Array.size_append, hzs, ← hx.len, hl, ← Nat.add_mul]
    congr 1; omega
  refine ⟨hb1, hb2, _, (Post.of_same hr e1).trans hp, ?_⟩
  exact .slw id 0 need newCap i.size ⟨w.heap.size, (xs ++ Builtin.zeroCells zx (newCap - need)).size, i.size⟩ (by unfold Ren.put; rw [if_pos rfl]) hcap rfl (by show 0 + newCap * i.size = (xs ++ Builtin.zeroCells zx (newCap - need)).size; rw [hsize]; omega)

theorem Fresh.of_same {ρ : Ren} {s s1 s2 : St} (h : Fresh ρ s s2) (e : Same s s1) : Fresh ρ s1 s2 := fun id hid => h id ⟨by have := hid.1; rw [e.next] at this; exact this, hid.2⟩
theorem Rel.of_same {P : Program} {ρ : Ren} {m : Mem} {s s1 : St} {w : World} (h : Rel P ρ m s.heap.get w) (e : Same s s1) : Rel P ρ m s1.heap.get w := h.congr (fun id => by rw [e.heap])
theorem Post.after {P : Program} {ρ ρ' : Ren} {m m' : Mem} {s s1 s2 : St} {w w' : World} (h : Post P ρ m s1 w ρ' m' s2 w') (e : Same s s1) : Post P ρ m s w ρ' m' s2 w' :=
  ⟨h.ren, fun id hid => (h.new id hid).imp_right fun x => ⟨by have := x.1; rw [e.next] at this; exact this, x.2⟩, h.mem, h.rel, h.fr, by have := h.next; rw [e.next] at this; exact this⟩
theorem Post.drew {P : Program} {ρ ρ' : Ren} {m m' : Mem} {s s2 : St} {w w' : World} (h : Post P ρ m s { w with drawn := w.drawn + 1 } ρ' m' s2 w') : Post P ρ m s w ρ' m' s2 w' :=
  ⟨h.ren, h.new, h.mem, h.rel, (Fr.drew w).trans h.fr, h.next⟩

/-- The run of append where there is no room. -/
theorem run_append_grow {P : Program} {w : World} {ts : Array TypeId} {ty t t2 : TypeId} {rest : List TypeId} (hts : ts.toList = t :: t2 :: rest) {e : TypeId} {i : TI} (hu : (underlying t).run P w = .ok (.slice e) w) {d2 : TypeDesc}
    (hu2 : (underlying t2).run P w = .ok d2 w) (hd2 : intB d2 = false) (hi : TOk P e i) {base : Option Addr} {sLen sCap n : Nat} {x : Value} (hn : (Builtin.lenOf x).run P w = .ok n w) (hroom : ¬ sLen + n ≤ sCap)
    (hb : 2 * (sLen + n) * i.bytes ≤ 281474976710656) (hneed : sLen + n ≤ 281474976710656) {ys xs : Array Value} (hy : (Builtin.firstCells i.size sLen (.slice base sLen sCap)).run P { w with drawn := w.drawn + 1 } = .ok ys { w with drawn := w.drawn + 1 })
    (hx : (Builtin.firstCells i.size n x).run P { w with drawn := w.drawn + 1 } = .ok xs { w with drawn := w.drawn + 1 }) :
    ∃ (newCap : Nat) (z : Value), sLen + n ≤ newCap ∧ ofValue z = i.zero ∧ (Builtin.append_ ts ty #[.slice base sLen sCap, x]).run P w =
      .ok (.slice (some ⟨w.heap.size, 0, none⟩) (sLen + n) newCap) (({ w with drawn := w.drawn + 1 } : World).alloc (.cells (ys ++ xs ++ Builtin.zeroCells z.cells (newCap - (sLen + n))) e)) := by
  obtain ⟨j, hj, hjs, hjb, z, hjz, hzi⟩ := hi.run_info (w := w)
  have h0 : ts[0]? = some t := by rw [← Array.getElem?_toList, hts]; rfl
  have h1 : ts[1]? = some t2 := by rw [← Array.getElem?_toList, hts]; rfl
  have hmax : ¬ (((sLen + n : Nat) : Int) > IntKind.i64.max) := by
    have : IntKind.i64.max = 9223372036854775807 := rfl
    rw [this]; omega
  have hns : ¬ (Builtin.nextslicecap (sLen + n) sCap * j.bytes > 2 ^ 48) := by
    have h2 := nextslicecap_le (show sCap < sLen + n by omega)
    have h3 : Builtin.nextslicecap (sLen + n) sCap * j.bytes ≤ 2 * (sLen + n) * j.bytes := Nat.mul_le_mul_right _ h2
    rw [hjb] at h3 ⊢
    omega
  refine ⟨(Question.appendCap (sLen + n) sCap e).cut (w.tape w.drawn (.appendCap (sLen + n) sCap e)), z, ?_, hzi, ?_⟩
  · simp only [Question.cut]; omega
  · have hz1 : ∀ w' : World, (zeroValue e).run P w' = .ok z w' := by
      intro w'
      obtain ⟨j', q, hj', _, _, hq, hv⟩ := hi.info
      have : (typeInfo e).run P w = .ok j' w := by simp [typeInfo, hj']
      rw [hj] at this
      injection this with e1 _
      subst e1
      simp [zeroValue, typeInfo, hj', hjz]
    have hj1 : ∀ w' : World, (typeInfo e).run P w' = .ok j w' := by
      intro w'
      obtain ⟨j', q, hj', _, _, hq, hv⟩ := hi.info
      have : (typeInfo e).run P w = .ok j' w := by simp [typeInfo, hj']
      rw [hj] at this
      injection this with e1 _
      subst e1
      simp [typeInfo, hj']
    have hf : (Question.appendCap (sLen + n) sCap e).forced = false := rfl
    cases d2 with
    | int k => cases hd2
    | _ => simp only [Builtin.append_, h0, h1, List.getElem?_toArray, List.getElem?_cons_zero, List.getElem?_cons_succ, Sem.run_bind, hu, Result.andThen_ok, hi.run_size, hu2, Sem.run_pure, Bool.false_eq_true, if_false, hn, hroom, hj1, hmax, false_and, hns, run_choose, hf, run_askRoom, hy, Bool.not_false, if_true, hx, hz1, run_newRow]
end
end Go.Am
