/- The functions that the statement reaches, gone through. -/
import Derived.Test.YtmlagocbphoedaaTgPoA
set_option linter.unusedSimpArgs false
set_option linter.unusedVariables false
set_option linter.defProp false
set_option maxRecDepth 10000
namespace Go.Am.Ytmlagocbphoedaa
open Go Go.Am Go.Proofs
theorem div_step {b q r x : Nat} (hb : 0 < b) (hr : r < b) (hx : x = 2 * (q * b + r) + 0 ∨ x = 2 * (q * b + r) + 1) (bit : Nat) (hbit : x = 2 * (q * b + r) + bit) :
    x / b = (if 2 * r + bit < b then 2 * q else 2 * q + 1) ∧ x % b = (if 2 * r + bit < b then 2 * r + bit else 2 * r + bit - b) := by
  have hb1 : bit ≤ 1 := by omega
  have e : x = (2 * q) * b + (2 * r + bit) := by rw [hbit]; grind
  by_cases h : 2 * r + bit < b
  · rw [if_pos h, if_pos h, e]
    constructor
    · rw [Nat.add_comm, Nat.add_mul_div_right _ _ hb, Nat.div_eq_of_lt h, Nat.zero_add]
    · rw [Nat.add_comm, Nat.add_mul_mod_self_right, Nat.mod_eq_of_lt h]
  · rw [if_neg h, if_neg h]
    have e2 : x = (2 * q + 1) * b + (2 * r + bit - b) := by rw [e, Nat.add_mul]; omega
    have h2 : 2 * r + bit - b < b := by omega
    rw [e2]
    constructor
    · rw [Nat.add_comm, Nat.add_mul_div_right _ _ hb, Nat.div_eq_of_lt h2, Nat.zero_add]
    · rw [Nat.add_comm, Nat.add_mul_mod_self_right, Nat.mod_eq_of_lt h2]
theorem ushr63 (x : Nat) : Int.fdiv (x : Int) (2 ^ (min (Int.toNat 63) IntKind.u64.bits)) = ((x / 9223372036854775808 : Nat) : Int) := ushr x 63 (by decide)
theorem ushl1 (s : Nat) (hs : s < 64) : IntKind.u64.wrap (1 * 2 ^ (min ((s : Nat) : Int).toNat IntKind.u64.bits)) = ((2 ^ s : Nat) : Int) := by
  have := ushl 1 s (by omega)
  rw [show ((1 : Nat) : Int) = 1 from rfl] at this
  rw [this, Nat.one_mul, Nat.mod_eq_of_lt]
  exact Nat.lt_of_lt_of_le (Nat.pow_lt_pow_right (by decide) hs) (show 2 ^ 64 ≤ 18446744073709551616 by decide)
theorem pick_wd {k : IntKind} {h : Hp} {id x : Nat} (ha : Arr k h id 4 (pick4 (wd x 0 : Nat) (wd x 1 : Nat) (wd x 2 : Nat) (wd x 3 : Nat))) : Arr k h id 4 (fun j => (wd x j : Nat)) := ha.ext fun j hj => by
  match j, hj with
  | 0, _ => rfl
  | 1, _ => rfl
  | 2, _ => rfl
  | 3, _ => rfl
theorem bit_add {L b j : Nat} (hL : L % 2 = 0) (hb : b < 2) : wd (L + b) j = if j = 0 then wd L 0 ||| b else wd L j := by
  have h01 : b = 0 ∨ b = 1 := by omega
  rcases h01 with rfl | rfl
  · rw [Nat.add_zero, Nat.or_zero]
    split
    · rename_i h; rw [h]
    · rfl
  · have := set_bit L 0 j (by simpa using hL)
    simp only [Nat.pow_zero, Nat.zero_div, Nat.zero_mod] at this
    rw [this]
    split
    · rename_i h; rw [h]
    · rfl
theorem high_bit {r : Nat} (hr : r < b256) : (wd r 3 / 9223372036854775808 = 0 ∧ 2 * r < b256) ∨ (wd r 3 / 9223372036854775808 = 1 ∧ b256 ≤ 2 * r) := by
  unfold wd
  unfold b256 at hr ⊢
  omega
theorem left_one (r : Nat) : leftV r 1 = 2 * r % b256 := by
  unfold leftV
  rw [if_neg (by decide), show (1 : Int).toNat = 1 from rfl, Nat.pow_one, Nat.mul_comm]
theorem even_left (r : Nat) : leftV r 1 % 2 = 0 := by
  rw [left_one]
  unfold b256
  omega
noncomputable def L34 (tm : List AVal) : ALoop := { state := .ready, pending := none, fn := 34, tmps := tm, params := [17, 18], assign := ra34_0, body := rb34_0 }
set_option maxHeartbeats 4000000 in
theorem loop69 (Q : Post0) (ks : List Kf) (N a b i1 i3 i4 i5 id : Nat) (ha : a < b256) (hb : 0 < b) (hb2 : b < b256)
    (hd : i1 ≠ i3 ∧ i1 ≠ i4 ∧ i1 ≠ i5 ∧ i1 ≠ id ∧ i3 ≠ i4 ∧ i3 ≠ i5 ∧ i3 ≠ id ∧ i4 ≠ i5 ∧ i4 ≠ id ∧ i5 ≠ id) (hN : N ≤ i4 ∧ N ≤ i5 ∧ N ≤ id) (h0 : Hp)
    (hq : ∀ (h : Hp) (n : Nat) (tm' : List AVal) (x0 x1 x2 x6 x7 x8 x9 x12 x16 x17 x18 x36 : AVal), h id = some (.loop (L34 (x0 :: x1 :: x2 :: .ptr i3 0 :: .ptr i4 0 :: .ptr i5 0 :: x6 :: x7 :: x8 :: x9 :: AVal.junk :: AVal.junk :: x12 :: AVal.junk :: AVal.junk :: AVal.junk :: x16 :: x17 :: x18 :: AVal.junk :: AVal.junk :: AVal.junk :: AVal.junk :: AVal.junk :: AVal.junk :: AVal.junk :: AVal.junk :: AVal.junk :: AVal.junk :: AVal.junk :: AVal.junk :: AVal.junk :: AVal.junk :: AVal.junk :: AVal.junk :: AVal.junk :: x36 :: AVal.junk :: AVal.junk :: AVal.junk :: AVal.junk :: AVal.junk :: AVal.junk :: AVal.junk :: AVal.junk :: AVal.junk :: AVal.junk :: AVal.junk :: AVal.junk :: AVal.junk :: AVal.junk :: AVal.junk :: AVal.junk :: AVal.junk :: []))) → Arr .u64 h i4 4 (fun j => (wd (a / b) j : Nat)) → Arr .u64 h i5 4 (fun j => (wd (a % b) j : Nat)) → i4 < n ∧ i5 < n ∧ id < n → Free h n → Old h0 h N → Kont env 69 none Q ks (.exit 0) tm' h n) :
    ∀ (m : Nat) (h : Hp) (n : Nat) (z8 z22 : AVal) (x0 x1 x2 x6 x7 x8 x9 x12 x16 x17 x18 x36 : AVal), m ≤ 256 → h id = some (.loop (L34 (x0 :: x1 :: x2 :: .ptr i3 0 :: .ptr i4 0 :: .ptr i5 0 :: x6 :: x7 :: x8 :: x9 :: AVal.junk :: AVal.junk :: x12 :: AVal.junk :: AVal.junk :: AVal.junk :: x16 :: x17 :: x18 :: AVal.junk :: AVal.junk :: AVal.junk :: AVal.junk :: AVal.junk :: AVal.junk :: AVal.junk :: AVal.junk :: AVal.junk :: AVal.junk :: AVal.junk :: AVal.junk :: AVal.junk :: AVal.junk :: AVal.junk :: AVal.junk :: AVal.junk :: x36 :: AVal.junk :: AVal.junk :: AVal.junk :: AVal.junk :: AVal.junk :: AVal.junk :: AVal.junk :: AVal.junk :: AVal.junk :: AVal.junk :: AVal.junk :: AVal.junk :: AVal.junk :: AVal.junk :: AVal.junk :: AVal.junk :: AVal.junk :: []))) →
    Arr .u64 h i1 4 (fun j => (wd a j : Nat)) → Arr .u64 h i3 4 (fun j => (wd b j : Nat)) → Arr .u64 h i4 4 (fun j => (wd (a / 2 ^ m / b * 2 ^ m) j : Nat)) → Arr .u64 h i5 4 (fun j => (wd (a / 2 ^ m % b) j : Nat)) →
    i1 < n ∧ i3 < n ∧ i4 < n ∧ i5 < n ∧ id < n → Free h n → Old h0 h N →
    Run env 69 none Q (.loop lp69_0) ks (.fn (.yield id) [] [] :: .ptr i1 0 :: AVal.junk :: .int .i64 (((m : Nat) : Int) - 1) :: AVal.junk :: AVal.junk :: AVal.junk :: AVal.junk :: z8 :: AVal.junk :: AVal.junk :: AVal.junk :: AVal.junk :: AVal.junk :: AVal.junk :: AVal.junk :: AVal.junk :: AVal.junk :: AVal.junk :: AVal.junk :: AVal.junk :: AVal.junk :: z22 :: []) h n := by
  intro m
  induction m with
  | zero =>
    intro h n z8 z22 x0 x1 x2 x6 x7 x8 x9 x12 x16 x17 x18 x36 hm hid h1 h3 h4 h5 hn hf ho
    have hc : ¬ (0 : Int) ≤ ((0 : Nat) : Int) - 1 := by decide
    rw [run_loop]
    simp only [lp69_0, loopsOf, Try.f69, Option.getD_some, core1, fgr, execOp, opd, ofValue, putT, put, nth, forgetL, bor, binInt, shiftB, intOp, List.nil_append, List.append_nil, Int.cast_ofNat_Int, Int.reduceLE, Int.reduceSub, Int.reduceNeg, ge_iff_le, decide_true, decide_false, List.getD_cons_zero]
    refine hq h n _ _ _ _ _ _ _ _ _ _ _ _ _ hid ?_ ?_ ⟨hn.2.2.1, hn.2.2.2.1, hn.2.2.2.2⟩ hf ho
    · simpa using h4
    · simpa using h5
  | succ m ih =>
    intro h n z8 z22 x0 x1 x2 x6 x7 x8 x9 x12 x16 x17 x18 x36 hm hid h1 h3 h4 h5 hn hf ho
    have hc : (0 : Int) ≤ ((m : Nat) : Int) := by omega
    have hm1 : ((m + 1 : Nat) : Int) - 1 = ((m : Nat) : Int) := by omega
    have hwm : IntKind.i64.wrap (((m : Nat) : Int) - 1) = ((m : Nat) : Int) - 1 := w64 (by omega) (by omega)
    have q1 : IntKind.i64.wrap (Int.tdiv ((m : Nat) : Int) 64) = ((m / 64 : Nat) : Int) := by rw [Int.tdiv_eq_ediv_of_nonneg (by omega), w64 (by omega) (by omega)]; omega
    have q2 : Int.tmod ((m : Nat) : Int) 64 = ((m % 64 : Nat) : Int) := by rw [Int.tmod_eq_emod_of_nonneg (by omega)]; omega
    have hr64 : m % 64 < 64 := Nat.mod_lt _ (by decide)
    have h64 : m / 64 < 4 := by omega
    have h0r : (0 : Int) ≤ ((m % 64 : Nat) : Int) := by omega
    have hlt : wd a (m / 64) / 2 ^ (m % 64) < 18446744073709551616 := Nat.lt_of_le_of_lt (Nat.div_le_self _ _) (wd_lt _ _)
    have hbit := bit_wd a m
    rw [run_loop]
    simp only [lp69_0, loopsOf, Try.f69, Option.getD_some, core1, fgr, execOp, opd, ofValue, putT, put, nth, forgetL, bor, binInt, shiftB, intOp, wrapI, List.nil_append, List.append_nil, Int.reduceNe, ge_iff_le, decide_true, true_and, List.getD_cons_zero, hm1, hc, q1]
    rw [opv_rd (arr_idx t25 s23 rfl h64)]
    simp only [core1, execOp, opd, putT, put, nth]
    rw [opv_rd (h1.load ti23 rfl h64)]
    simp only [core1, execOp, opd, opds, ofValue, putT, put, nth, doCall, bor, binInt, shiftB, shiftOp, intOp, wrapI, Int.reduceNe, decide_true, true_and, q2, h0r, ushr _ (m % 64) (by omega), umask1 hlt, hbit]
    refine opv_yield (l := L34 (x0 :: x1 :: x2 :: .ptr i3 0 :: .ptr i4 0 :: .ptr i5 0 :: x6 :: x7 :: x8 :: x9 :: AVal.junk :: AVal.junk :: x12 :: AVal.junk :: AVal.junk :: AVal.junk :: x16 :: x17 :: x18 :: AVal.junk :: AVal.junk :: AVal.junk :: AVal.junk :: AVal.junk :: AVal.junk :: AVal.junk :: AVal.junk :: AVal.junk :: AVal.junk :: AVal.junk :: AVal.junk :: AVal.junk :: AVal.junk :: AVal.junk :: AVal.junk :: AVal.junk :: x36 :: AVal.junk :: AVal.junk :: AVal.junk :: AVal.junk :: AVal.junk :: AVal.junk :: AVal.junk :: AVal.junk :: AVal.junk :: AVal.junk :: AVal.junk :: AVal.junk :: AVal.junk :: AVal.junk :: AVal.junk :: AVal.junk :: AVal.junk :: [])) hid rfl rfl ?_
    simp only [ra34_0, List.getD_cons_zero, putAll, List.zip_cons_cons, List.zip_nil_left, L34, rangesOf, Try.f34, Option.getD_some, core1, fgr, execOp, opd, putT, put, nth, forgetL, unOp, List.nil_append, List.append_nil, true_and]
    refine ⟨_, hid, rfl, ?_⟩
    simp only [rb34_0, List.getD_cons_zero, L34, rangesOf, Try.f34, Option.getD_some, core1, execOp, opd, ofValue, nth, List.nil_append, List.append_nil]
    generalize hG : upd h id (some (Blk.loop _)) = G
    have gid := (congrFun hG.symm id).trans (upd_same _ _ _)
    have gk : ∀ j, j ≠ id → G j = h j := fun j hj => by rw [← hG, upd_ne _ _ hj]
    have fG : Free G n := by rw [← hG]; exact hf.upd hn.2.2.2.2
    have g3 := h3.keep (gk i3 (by omega))
    have g4 := h4.keep (gk i4 (by omega))
    have g5 := h5.keep (gk i5 (by omega))
    have oG : Old h0 G N := fun j hj => by rw [gk j (by omega)]; exact ho j hj
    clear hG
    rw [opv_rd (arr_idx (z := 3) (j := 3) t25 s23 rfl (by decide))]
    simp only [core1, execOp, opd, putT, put, nth]
    rw [opv_rd (g5.load ti23 rfl (by decide))]
    simp only [core1, fgr, execOp, opd, ofValue, putT, put, nth, forgetL, bor, binInt, shiftB, shiftOp, Int.reduceLE, decide_true, true_and, ushr63]
    rw [opv_rd (g5.all ti25 rfl rfl), range4]
    have hrlt : a / 2 ^ (m + 1) % b < b := Nat.mod_lt _ hb
    have hr256 : a / 2 ^ (m + 1) % b < b256 := Nat.lt_trans hrlt hb2
    simp only [core1, hkr, execOp, opd, opds, ofValue, putT, put, nth, doCall, callV_func, List.nil_append, List.append_nil]
    refine opv_callf fG (f20 (a / 2 ^ (m + 1) % b) 1 G n hr256 fG) fun v1 g1 n1 hn1 hf1 ⟨e1, old1⟩ => ?_
    subst e1
    have k5 := g5.keep (old1 i5 (by omega))
    simp only [core1, execOp, opd, putT, put, nth, W]
    refine opv_all4 k5 ti25 rfl fun b5 k5 => ?_
    have k5 := pick_wd k5
    simp only [core1, fgr, execOp, opd, ofValue, putT, nth, forgetL]
    rw [opv_rd (arr_idx (z := 0) (j := 0) t25 s23 rfl (by decide))]
    simp only [core1, execOp, opd, putT, put, nth]
    rw [opv_rd (k5.load ti23 rfl (by decide))]
    have hbl : a / 2 ^ m % 2 < 2 := Nat.mod_lt _ (by decide)
    simp only [core1, execOp, opd, ofValue, putT, put, nth, bor, binInt, shiftB, intOp, wrapI, decide_true, uor (wd_lt _ _) (show a / 2 ^ m % 2 < 18446744073709551616 by omega)]
    rw [opv_rd (arr_idx (z := 0) (j := 0) t25 s23 rfl (by decide))]
    simp only [core1, execOp, opd, putT, put, nth]
    refine opv_arr k5 ti23 rfl (by decide) fun b6 k6 => ?_
    obtain ⟨X, hX⟩ : ∃ X, X = leftV (a / 2 ^ (m + 1) % b) 1 + a / 2 ^ m % 2 := ⟨_, rfl⟩
    have hXlt : X < b256 := by
      have h1 := even_left (a / 2 ^ (m + 1) % b)
      have h2 := leftV_lt (z := 1) hr256
      rw [hX]
      unfold b256 at h2 ⊢
      omega
    have k7 : Arr .u64 (upd (upd g1 i5 (some b5)) i5 (some b6)) i5 4 (fun j => (wd X j : Nat)) := k6.ext fun j hj => by
      rw [hX, bit_add (even_left _) hbl]
      split <;> rfl
    clear k6
    obtain ⟨F, hF⟩ : ∃ F, F = upd (upd g1 i5 (some b5)) i5 (some b6) := ⟨_, rfl⟩
    rw [← hF] at k7 ⊢
    have fk : ∀ j, j ≠ i5 → F j = g1 j := fun j hj => by rw [hF, upd_ne _ _ hj, upd_ne _ _ hj]
    have fF : Free F n1 := by rw [hF]; exact (hf1.upd (by omega)).upd (by omega)
    have f1 : Arr .u64 F i1 4 (fun j => (wd a j : Nat)) := (h1.keep (gk i1 (by omega))).keep ((fk i1 (by omega)).trans (old1 i1 (by omega)))
    have f3 := g3.keep ((fk i3 (by omega)).trans (old1 i3 (by omega)))
    have f4 := g4.keep ((fk i4 (by omega)).trans (old1 i4 (by omega)))
    have fid := ((fk id (by omega)).trans (old1 id (by omega))).trans gid
    have oF : Old h0 F N := fun j hj => by rw [fk j (by omega), old1 j (by omega)]; exact oG j hj
    clear hF
    -- the numbers
    have hA : a / 2 ^ m = 2 * (a / 2 ^ (m + 1)) + a / 2 ^ m % 2 := half_step a m
    have hA2 : a / 2 ^ (m + 1) = a / 2 ^ (m + 1) / b * b + a / 2 ^ (m + 1) % b := by rw [Nat.mul_comm]; exact (Nat.div_add_mod _ _).symm
    obtain ⟨dq, dr⟩ := div_step (b := b) (q := a / 2 ^ (m + 1) / b) (r := a / 2 ^ (m + 1) % b) (x := a / 2 ^ m) hb hrlt (by rw [← hA2]; omega) (a / 2 ^ m % 2) (by rw [← hA2]; exact hA)
    have hpow : 2 ^ (m + 1) = 2 * 2 ^ m := by rw [Nat.pow_succ, Nat.mul_comm]
    have small : ∀ (hsm : 2 * (a / 2 ^ (m + 1) % b) + a / 2 ^ m % 2 < b), X = a / 2 ^ m % b ∧ a / 2 ^ m / b * 2 ^ m = a / 2 ^ (m + 1) / b * 2 ^ (m + 1) := fun hsm => by
      rw [dq, dr, if_pos hsm, if_pos hsm]
      refine ⟨?_, by rw [hpow]; grind⟩
      rw [hX, left_one, Nat.mod_eq_of_lt (by omega)]
    simp only [core1, fgr, execOp, opd, ofValue, putT, put, nth, forgetL, bor, binInt, shiftB, intOp, List.getElem?_cons_succ, List.getElem?_cons_zero, int_beq, decide_true]
    rcases high_bit hr256 with ⟨u1, u2⟩ | ⟨u1, u2⟩
    case' inl =>
      simp only [u1, core1, execOp, opd, nth, Int.cast_ofNat_Int, decide_true]
      rw [opv_rd (k7.all ti25 rfl rfl), range4]
      simp only [core1, execOp, opd, putT, put, nth, List.getElem?_cons_succ, List.getElem?_cons_zero]
      rw [opv_rd (f3.all ti25 rfl rfl), range4]
      simp only [core1, hkr, execOp, opd, opds, putT, put, nth, doCall, callV_func, List.getElem?_cons_succ, List.getElem?_cons_zero, List.nil_append, List.append_nil]
      refine opv_callf fF (f17 X b F n1 hXlt hb2 fF) fun v2 g2 n2 hn2 hf2 ⟨e2, old2⟩ => ?_
      subst e2
      have hx2 : X = 2 * (a / 2 ^ (m + 1) % b) + a / 2 ^ m % 2 := by rw [hX, left_one, Nat.mod_eq_of_lt u2]
      by_cases hXb : X < b
      · have hv : (if X = b then (0 : Int) else if X < b then -1 else 1) = -1 := by rw [if_neg (by omega), if_pos hXb]
        obtain ⟨s1, s2⟩ := small (by omega)
        simp only [hv, core1, fgr, execOp, opd, ofValue, putT, put, nth, forgetL, bor, binInt, shiftB, intOp, doPick, branch, List.getElem?_cons_succ, List.getElem?_cons_zero, Int.reduceLT, Int.reduceNeg, decide_true]
        refine ⟨_, (old2 id (by omega)).trans fid, ?_⟩
        simp only [core1, fgr, execOp, opd, ofValue, putT, put, nth, forgetL, bor, binInt, shiftB, intOp, wrapI, decide_true, Bool.not_true, normB, jumpOf, hwm]
        refine ih _ n2 _ _ _ _ _ _ _ _ _ _ _ _ _ _ (by omega) (upd_same _ _ _) ((f1.keep (old2 i1 (by omega))).upd (by omega)) ((f3.keep (old2 i3 (by omega))).upd (by omega)) (((f4.keep (old2 i4 (by omega))).upd (by omega)).ext fun j hj => ?_) (((k7.keep (old2 i5 (by omega))).upd (by omega)).ext fun j hj => ?_) ⟨by omega, by omega, by omega, by omega, by omega⟩ (hf2.upd (by omega)) (fun j hj => ?_)
        · rw [s2]
        · rw [s1]
        · rw [upd_ne _ _ (by omega), old2 j (by omega)]; exact oF j hj
      have hv : ∃ z : Int, (if X = b then (0 : Int) else if X < b then -1 else 1) = z ∧ ¬ z < 0 := by
        by_cases e : X = b
        · exact ⟨0, if_pos e, by decide⟩
        · exact ⟨1, by rw [if_neg e, if_neg hXb], by decide⟩
      obtain ⟨z, hz, hz2⟩ := hv
      have big : b ≤ 2 * (a / 2 ^ (m + 1) % b) + a / 2 ^ m % 2 := by omega
      simp only [hz, hz2, core1, fgr, execOp, opd, ofValue, putT, put, nth, forgetL, bor, binInt, shiftB, intOp, doPick, branch, List.getElem?_cons_succ, List.getElem?_cons_zero, Int.reduceNeg, decide_true, decide_false]
    case' inr =>
      simp only [u1, core1, fgr, execOp, opd, ofValue, putT, put, nth, forgetL, doPick, branch, List.getElem?_cons_succ, List.getElem?_cons_zero, Int.cast_ofNat_Int, Int.reduceEq, decide_false]
      have big : b ≤ 2 * (a / 2 ^ (m + 1) % b) + a / 2 ^ m % 2 := by omega
      obtain ⟨g2, eg2⟩ : ∃ g2, g2 = F := ⟨_, rfl⟩
      obtain ⟨n2, en2⟩ : ∃ n2, n2 = n1 := ⟨_, rfl⟩
      have hn2 : n1 ≤ n2 := by omega
      have hf2 : Free g2 n2 := by rw [eg2, en2]; exact fF
      have old2 : Old F g2 n1 := by rw [eg2]; exact Old.refl _ _
      rw [← eg2, ← en2]
    all_goals
      have p7 := k7.keep (old2 i5 (by omega))
      have p3 := f3.keep (old2 i3 (by omega))
      have p4 := f4.keep (old2 i4 (by omega))
      have p1 := f1.keep (old2 i1 (by omega))
      have pid := (old2 id (by omega)).trans fid
      rw [opv_rd (p7.all ti25 rfl rfl), range4]
      simp only [core1, execOp, opd, putT, put, nth]
      rw [opv_rd (p3.all ti25 rfl rfl), range4]
      simp only [core1, hkr, execOp, opd, opds, putT, put, nth, doCall, callV_func, List.nil_append, List.append_nil]
      refine opv_callf hf2 (f18 X b g2 n2 hXlt hb2 hf2) fun v3 g3' n3 hn3 hf3 ⟨e3, old3⟩ => ?_
      subst e3
      simp only [core1, execOp, opd, putT, put, nth, extract, getO, List.getElem?_cons_succ, List.getElem?_cons_zero, W]
      refine opv_all4 (p7.keep (old3 i5 (by omega))) ti25 rfl fun b7 k8 => ?_
      have k8 := pick_wd k8
      simp only [core1, fgr, putT, forgetL]
      refine run_draw.2 ⟨rfl, ?_⟩
      simp only [fe_cons, fev_ob, fev_pure, execOp, opd, ofValue, putT, put, nth, bor, binInt, shiftB, intOp, wrapI, Nat.reduceAdd, Int.reduceNe, decide_true, true_and, Nat.zero_add, q1]
      rw [fev_rd (arr_idx t25 s23 rfl h64)]
      simp only [fe_cons, execOp, opd, putT, put, nth, Nat.reduceAdd]
      have p4' : Arr .u64 (upd g3' i5 (some b7)) i4 4 (fun j => (wd (a / 2 ^ (m + 1) / b * 2 ^ (m + 1)) j : Nat)) := (p4.keep (old3 i4 (by omega))).upd (by omega)
      rw [fev_rd (p4'.load ti23 rfl h64)]
      simp only [fe_cons, fev_ob, fev_pure, execOp, opd, ofValue, putT, put, nth, bor, binInt, shiftB, shiftOp, intOp, wrapI, Nat.reduceAdd, Int.reduceNe, decide_true, true_and, q2, h0r, ushl1 _ hr64, uor (wd_lt _ _) (Nat.lt_of_lt_of_le (Nat.pow_lt_pow_right (by decide) hr64) (show 2 ^ 64 ≤ 18446744073709551616 by decide))]
      rw [fev_rd (arr_idx t25 s23 rfl h64)]
      simp only [fe_cons, execOp, opd, putT, put, nth, Nat.reduceAdd]
      refine fev_arr p4' (hf3.upd (by omega)) (by omega) ti23 rfl h64 fun b8 rr ww k9 => ?_
      simp only [fe_nil, core1, fgr, putT, forgetL, Nat.reduceAdd]
      refine ⟨(by (try simp (disch := omega) only [fine, List.all_cons, List.all_nil, clash_pl, clash_pr, clash_rr, Bool.not_false, Bool.true_or, Bool.and_true, Bool.true_and]); repeat' (first | rfl | exact (Bool.or_eq_true _ _).mpr (.inr rfl) | refine (Bool.and_eq_true _ _).mpr ⟨?_, ?_⟩)), ?_⟩
      have nsm : ¬ 2 * (a / 2 ^ (m + 1) % b) + a / 2 ^ m % 2 < b := by omega
      have t1 : (X + b256 - b) % b256 = a / 2 ^ m % b := by
        rw [dr, if_neg nsm]
        have h1 := hX
        rw [left_one] at h1
        unfold b256 at h1 u2 hb2 hr256 hXlt ⊢
        omega
      have t2 : a / 2 ^ m / b * 2 ^ m = a / 2 ^ (m + 1) / b * 2 ^ (m + 1) + 2 ^ m := by rw [dq, if_neg nsm, hpow]; grind
      have t3 : ∀ j, wd (a / 2 ^ m / b * 2 ^ m) j = if j = m / 64 then wd (a / 2 ^ (m + 1) / b * 2 ^ (m + 1)) (m / 64) ||| 2 ^ (m % 64) else wd (a / 2 ^ (m + 1) / b * 2 ^ (m + 1)) j := fun j => by
        rw [t2, set_bit _ _ _ (Nat.mul_mod_left _ _)]
        split
        · rename_i h; rw [h]
        · rfl
      refine ⟨_, (upd_ne _ _ (show id ≠ i4 by omega)).trans ((upd_ne _ _ (show id ≠ i5 by omega)).trans ((old3 id (by omega)).trans pid)), ?_⟩
      simp only [core1, fgr, execOp, opd, ofValue, putT, put, nth, forgetL, bor, binInt, shiftB, intOp, wrapI, decide_true, Bool.not_true, normB, jumpOf, hwm]
      refine ih _ n3 _ _ _ _ _ _ _ _ _ _ _ _ _ _ (by omega) (upd_same _ _ _) ((((p1.keep (old3 i1 (by omega))).upd (by omega)).upd (by omega)).upd (by omega)) ((((p3.keep (old3 i3 (by omega))).upd (by omega)).upd (by omega)).upd (by omega)) ((k9.upd (by omega)).ext fun j hj => ?_) (((k8.upd (by omega)).upd (by omega)).ext fun j hj => ?_) ⟨by omega, by omega, by omega, by omega, by omega⟩ (((hf3.upd (by omega)).upd (by omega)).upd (by omega)) (fun j hj => ?_)
      · rw [t3]
        split <;> rfl
      · rw [t1]
      · rw [upd_ne _ _ (by omega), upd_ne _ _ (by omega), upd_ne _ _ (by omega), old3 j (by omega), old2 j (by omega)]; exact oF j hj
/- Division: the whole. -/
theorem f63 (a : Nat) (h : Hp) (n : Nat) : Wp (callI env (evalW env) 63 [W a]) h n fun v' h' n' => v' = .fn (.func 69) [] [.ptr n 0] ∧ h' = upd h n (some (.row (.l [.int .u64 (wd a 0 : Nat), .int .u64 (wd a 1 : Nat), .int .u64 (wd a 2 : Nat), .int .u64 (wd a 3 : Nat)]) 25)) ∧ n' = n + 1 := by
  refine wp_callI ff63 fi63 ?_
  simp only [fu63, Try.f63, Option.getD_some, List.replicate, core1, tyr, fgr, execOp, opd, opds, ofValue, putT, put, nth, forgetL, cel, alloc, newRow, ended, resultOf, oneOrTup, List.cons_append, List.nil_append, List.length_cons, List.length_nil, Nat.reduceSub, and_self, Nat.zero_add, wp_pure, W]
set_option maxHeartbeats 1000000 in
theorem f34 (a b : Nat) (h : Hp) (n : Nat) (ha : a < b256) (hb : b < b256) (hf : Free h n) : Wp (callI env (evalW env) 34 [W a, W b]) h n fun v' h' n' => v' = .tup [W (if b = 0 then 0 else a / b), W (if b = 0 then 0 else a % b), .int .i64 (if b = 0 then 30 else 0)] ∧ Old h h' n := by
  refine wp_callI ff34 fi34 ?_
  by_cases h0 : b = 0
  · subst h0
    simp (disch := omega) only [fu34, Try.f34, Option.getD_some, List.replicate, core1, tyr, fgr, execOp, opd, ofValue, ops2, putT, put, nth, forgetL, sizeOf, zeroOf, bor, binOther, readCells, cellsOf, aggB, cel, alloc, doAlloc, newRow, getO, ended, resultOf, oneOrTup, rowK, List.cons_append, List.nil_append, List.length_cons, List.length_nil, Nat.reduceAdd, Nat.reduceSub, ↓reduceIte, decide_true, true_and, Nat.zero_add, memr, build, fill, List.take_succ_cons, List.take_zero, List.drop_zero, Nat.ble, Cont.size, Cont.sub, upd_same, upd_ne, Option.some.injEq, exists_eq_left', true_and, List.length_cons, List.length_nil, W, build, eq_agg0 hb]
    obtain ⟨G, hG⟩ : ∃ G, G = upd (upd (upd (upd h n (some (Blk.row (Cont.l [AVal.int IntKind.u64 (wd a 0 : Nat), AVal.int IntKind.u64 (wd a 1 : Nat), AVal.int IntKind.u64 (wd a 2 : Nat), AVal.int IntKind.u64 (wd a 3 : Nat)]) 25))) (n + 1) (some (Blk.row (Cont.l [AVal.int IntKind.u64 (wd 0 0 : Nat), AVal.int IntKind.u64 (wd 0 1 : Nat), AVal.int IntKind.u64 (wd 0 2 : Nat), AVal.int IntKind.u64 (wd 0 3 : Nat)]) 25))) (n + 1 + 1) (some (Blk.row (Cont.l [AVal.int IntKind.u64 0, AVal.int IntKind.u64 0, AVal.int IntKind.u64 0, AVal.int IntKind.u64 0]) 25))) (n + 1 + 1 + 1) (some (Blk.row (Cont.l [AVal.int IntKind.u64 0, AVal.int IntKind.u64 0, AVal.int IntKind.u64 0, AVal.int IntKind.u64 0]) 25)) := ⟨_, rfl⟩
    rw [← hG]
    have g4 : Arr .u64 G (n + 1 + 1) 4 (fun _ => 0) := arr_0 (by rw [hG, upd_ne _ _ (by omega)]; exact upd_same _ _ _)
    have g5 : Arr .u64 G (n + 1 + 1 + 1) 4 (fun _ => 0) := arr_0 (by rw [hG]; exact upd_same _ _ _)
    have fG : Free G (n + 1 + 1 + 1 + 1) := by rw [hG]; exact ((hf.new).new).new.new
    have oG : Old h G n := fun j hj => by rw [hG]; simp (disch := omega) only [upd_ne]
    refine run_draw.2 ⟨rfl, ?_⟩
    simp only [fe_cons, execOp, opd, nth]
    rw [fev_rd (g4.all ti25 rfl rfl), range4]
    simp only [fe_cons, execOp, opd, putT, put, nth, Nat.zero_add]
    rw [fev_rd (g5.all ti25 rfl rfl), range4]
    simp only [fe_cons, execOp, opd, putT, put, nth, Nat.reduceAdd]
    refine fev_all4 g4 ti25 rfl fun b4 k4 => ?_
    simp only [fe_cons, execOp, opd, putT, nth, Nat.reduceAdd]
    refine fev_all4 (g5.upd (by omega)) ti25 rfl fun b5 k5 => ?_
    simp only [fe_nil, fe_cons, fev_pure, core1, fgr, execOp, opd, ofValue, putT, put, nth, forgetL, Nat.reduceAdd, true_and]
    refine ⟨(by (try simp (disch := omega) only [fine, List.all_cons, List.all_nil, clash_pr, clash_rr, Bool.not_false, Bool.true_or, Bool.and_true, Bool.true_and, clash_rw, clash_ww]); repeat' (first | rfl | exact (Bool.or_eq_true _ _).mpr (.inr rfl) | refine (Bool.and_eq_true _ _).mpr ⟨?_, ?_⟩)), ?_⟩
    simp only [wp_pure, wp_rd ((k4.upd (i := n + 1 + 1 + 1) (b := some b5) (by omega)).all ti25 rfl rfl), wp_rd (k5.all ti25 rfl rfl), range4, pick4]
    refine ⟨rfl, fun j hj => ?_⟩
    rw [upd_ne _ _ (by omega), upd_ne _ _ (by omega)]; exact oG j hj
  · simp (disch := omega) only [fu34, Try.f34, Option.getD_some, List.replicate, core1, tyr, fgr, hkr, execOp, opd, opds, ofValue, ops2, putT, put, nth, forgetL, doCall, callV_func, sizeOf, zeroOf, bor, binOther, readCells, cellsOf, aggB, cel, alloc, doAlloc, newRow, getO, ended, resultOf, oneOrTup, rowK, List.cons_append, List.nil_append, List.append_nil, List.length_cons, List.length_nil, Nat.reduceAdd, Nat.reduceSub, ↓reduceIte, decide_false, true_and, Nat.zero_add, memr, build, fill, List.take_succ_cons, List.take_zero, List.drop_zero, Nat.ble, Cont.size, Cont.sub, upd_same, upd_ne, Option.some.injEq, exists_eq_left', true_and, List.length_cons, List.length_nil, W, build, eq_agg0 hb, h0]
    obtain ⟨G, hG⟩ : ∃ G, G = upd (upd (upd (upd h n (some (Blk.row (Cont.l [AVal.int IntKind.u64 (wd a 0 : Nat), AVal.int IntKind.u64 (wd a 1 : Nat), AVal.int IntKind.u64 (wd a 2 : Nat), AVal.int IntKind.u64 (wd a 3 : Nat)]) 25))) (n + 1) (some (Blk.row (Cont.l [AVal.int IntKind.u64 (wd b 0 : Nat), AVal.int IntKind.u64 (wd b 1 : Nat), AVal.int IntKind.u64 (wd b 2 : Nat), AVal.int IntKind.u64 (wd b 3 : Nat)]) 25))) (n + 1 + 1) (some (Blk.row (Cont.l [AVal.int IntKind.u64 0, AVal.int IntKind.u64 0, AVal.int IntKind.u64 0, AVal.int IntKind.u64 0]) 25))) (n + 1 + 1 + 1) (some (Blk.row (Cont.l [AVal.int IntKind.u64 0, AVal.int IntKind.u64 0, AVal.int IntKind.u64 0, AVal.int IntKind.u64 0]) 25)) := ⟨_, rfl⟩
    rw [← hG]
    have g3 : Arr .u64 G (n + 1) 4 (fun j => (wd b j : Nat)) := arr_W (by rw [hG, upd_ne _ _ (by omega), upd_ne _ _ (by omega)]; exact upd_same _ _ _)
    have g4 : Arr .u64 G (n + 1 + 1) 4 (fun _ => 0) := arr_0 (by rw [hG, upd_ne _ _ (by omega)]; exact upd_same _ _ _)
    have g5 : Arr .u64 G (n + 1 + 1 + 1) 4 (fun _ => 0) := arr_0 (by rw [hG]; exact upd_same _ _ _)
    have fG : Free G (n + 1 + 1 + 1 + 1) := by rw [hG]; exact ((hf.new).new).new.new
    have oG : Old h G n := fun j hj => by rw [hG]; simp (disch := omega) only [upd_ne]
    refine (opv_det (f63 a G (n + 1 + 1 + 1 + 1)) _ _ _ _ _ _ _ _ _).2 ?_
    simp only [core1, fgr, putT, put, forgetL]
    refine run_range (g := 69) (first := []) (cap := [.ptr (n + 1 + 1 + 1 + 1) 0]) rfl rfl ?_
    refine wp_callI ff69 fi69 ?_
    simp only [fu69, Try.f69, Option.getD_some, List.replicate, core1, execOp, opd, nth, ended, resultOf, oneOrTup, List.cons_append, List.nil_append, List.length_cons, List.length_nil, Nat.reduceAdd, Nat.reduceSub, Nat.zero_add, wp_pure]
    generalize hF : upd (upd G (n + 1 + 1 + 1 + 1) _) (n + 1 + 1 + 1 + 1 + 1) (some (Blk.loop _)) = F
    have fid := (congrFun hF.symm (n + 1 + 1 + 1 + 1 + 1)).trans (upd_same _ _ _)
    have f1 : Arr .u64 F (n + 1 + 1 + 1 + 1) 4 (fun j => (wd a j : Nat)) := arr_W (by rw [← hF, upd_ne _ _ (by omega)]; exact upd_same _ _ _)
    have fk : ∀ j, j < n + 1 + 1 + 1 + 1 → F j = G j := fun j hj => by rw [← hF, upd_ne _ _ (by omega), upd_ne _ _ (by omega)]
    have f3 := g3.keep (fk _ (by omega))
    have f4 := g4.keep (fk _ (by omega))
    have f5 := g5.keep (fk _ (by omega))
    have fF : Free F (n + 1 + 1 + 1 + 1 + 1 + 1) := by rw [← hF]; exact fG.new.new
    have oF : Old h F n := fun j hj => by rw [fk j (by omega)]; exact oG j hj
    clear hF
    rw [opv_rd (f1.all ti25 rfl rfl), range4]
    simp only [core1, hkr, execOp, opd, opds, putT, put, nth, doCall, callV_func, List.nil_append, List.append_nil]
    refine opv_callf fF (f70 a F _ ha) fun v1 h1 n1 hn1 hf1 ⟨⟨L, e1, hL, hlt⟩, old1⟩ => ?_
    subst e1
    have hw : IntKind.i64.wrap (((L : Nat) : Int) - 1) = ((L : Nat) : Int) - 1 := w64 (by omega) (by omega)
    simp only [core1, fgr, execOp, opd, ofValue, putT, put, nth, forgetL, bor, binInt, shiftB, intOp, wrapI, decide_true, hw]
    have hz : a / 2 ^ L = 0 := Nat.div_eq_of_lt hlt
    refine loop69 _ _ n a b (n + 1 + 1 + 1 + 1) (n + 1) (n + 1 + 1) (n + 1 + 1 + 1) (n + 1 + 1 + 1 + 1 + 1) ha (by omega) hb (by omega) (by omega) h ?_ L h1 n1 _ _ _ _ _ _ _ _ _ _ _ _ _ _ hL ((old1 _ (by omega)).trans fid) (f1.keep (old1 _ (by omega))) (f3.keep (old1 _ (by omega))) ((f4.keep (old1 _ (by omega))).ext fun j hj => ?_) ((f5.keep (old1 _ (by omega))).ext fun j hj => ?_) (by omega) hf1 (oF.trans old1 (by omega))
    · intro h2 n2 tm' x0 x1 x2 x6 x7 x8 x9 x12 x16 x17 x18 x36 hid k4 k5 hn2 hf2 ho2
      simp only [core1, true_and]
      refine ⟨_, hid, by simp [L34], .normal, rfl, ?_⟩
      simp only [core1]
      have k4 := k4.upd (i := n + 1 + 1 + 1 + 1 + 1) (b := some (Blk.loop { L34 (x0 :: x1 :: x2 :: .ptr (n + 1) 0 :: .ptr (n + 1 + 1) 0 :: .ptr (n + 1 + 1 + 1) 0 :: x6 :: x7 :: x8 :: x9 :: AVal.junk :: AVal.junk :: x12 :: AVal.junk :: AVal.junk :: AVal.junk :: x16 :: x17 :: x18 :: AVal.junk :: AVal.junk :: AVal.junk :: AVal.junk :: AVal.junk :: AVal.junk :: AVal.junk :: AVal.junk :: AVal.junk :: AVal.junk :: AVal.junk :: AVal.junk :: AVal.junk :: AVal.junk :: AVal.junk :: AVal.junk :: AVal.junk :: x36 :: AVal.junk :: AVal.junk :: AVal.junk :: AVal.junk :: AVal.junk :: AVal.junk :: AVal.junk :: AVal.junk :: AVal.junk :: AVal.junk :: AVal.junk :: AVal.junk :: AVal.junk :: AVal.junk :: AVal.junk :: AVal.junk :: AVal.junk :: []) with state := .exhausted })) (by omega)
      have k5 := k5.upd (i := n + 1 + 1 + 1 + 1 + 1) (b := some (Blk.loop { L34 (x0 :: x1 :: x2 :: .ptr (n + 1) 0 :: .ptr (n + 1 + 1) 0 :: .ptr (n + 1 + 1 + 1) 0 :: x6 :: x7 :: x8 :: x9 :: AVal.junk :: AVal.junk :: x12 :: AVal.junk :: AVal.junk :: AVal.junk :: x16 :: x17 :: x18 :: AVal.junk :: AVal.junk :: AVal.junk :: AVal.junk :: AVal.junk :: AVal.junk :: AVal.junk :: AVal.junk :: AVal.junk :: AVal.junk :: AVal.junk :: AVal.junk :: AVal.junk :: AVal.junk :: AVal.junk :: AVal.junk :: AVal.junk :: x36 :: AVal.junk :: AVal.junk :: AVal.junk :: AVal.junk :: AVal.junk :: AVal.junk :: AVal.junk :: AVal.junk :: AVal.junk :: AVal.junk :: AVal.junk :: AVal.junk :: AVal.junk :: AVal.junk :: AVal.junk :: AVal.junk :: AVal.junk :: []) with state := .exhausted })) (by omega)
      refine run_draw.2 ⟨rfl, ?_⟩
      simp only [fe_cons, execOp, opd, nth]
      rw [fev_rd (k4.all ti25 rfl rfl), range4]
      simp only [fe_cons, execOp, opd, putT, put, nth, Nat.zero_add]
      rw [fev_rd (k5.all ti25 rfl rfl), range4]
      simp only [fe_cons, execOp, opd, putT, put, nth, Nat.reduceAdd]
      refine fev_all4 k4 ti25 rfl fun b4 m4 => ?_
      simp only [fe_cons, execOp, opd, putT, nth, Nat.reduceAdd]
      refine fev_all4 (k5.upd (by omega)) ti25 rfl fun b5 m5 => ?_
      simp only [fe_nil, fe_cons, fev_pure, core1, fgr, execOp, opd, ofValue, putT, put, nth, forgetL, Nat.reduceAdd, true_and]
      refine ⟨(by (try simp (disch := omega) only [fine, List.all_cons, List.all_nil, clash_pr, clash_rr, Bool.not_false, Bool.true_or, Bool.and_true, Bool.true_and, clash_rw, clash_ww]); repeat' (first | rfl | exact (Bool.or_eq_true _ _).mpr (.inr rfl) | refine (Bool.and_eq_true _ _).mpr ⟨?_, ?_⟩)), ?_⟩
      simp only [true_and, wp_pure, wp_rd ((m4.upd (i := n + 1 + 1 + 1) (b := some b5) (by omega)).all ti25 rfl rfl), wp_rd (m5.all ti25 rfl rfl), range4, pick4]
      intro j hj
      rw [upd_ne _ _ (by omega), upd_ne _ _ (by omega), upd_ne _ _ (by omega)]; exact ho2 j hj
    · rw [hz, Nat.zero_div, Nat.zero_mul]; unfold wd; simp
    · rw [hz, Nat.zero_mod]; unfold wd; simp
/- A number scaled: the program's. -/
def okB (x : Nat) : Bool := decide (1 ≤ x) && decide (x ≤ 1099511627776)
def scaleV (t by_ of most : Nat) : Option Nat :=
  if t = 0 ∨ most = 0 ∨ okB by_ = false ∨ okB of = false then none
  else some (if most < t * by_ / of then most else if t * by_ / of = 0 then 1 else t * by_ / of)
def scaleA (t by_ of most : Nat) : AVal := match scaleV t by_ of most with
  | none => .tup [W 0, .int .i64 50]
  | some q => .tup [W q, .int .i64 0]
theorem al25 (h : Hp) (n : Nat) : Wp (doAlloc env 25) h n fun v' h' n' => v' = .ptr n 0 ∧ Arr .u64 h' n 4 (fun _ => 0) ∧ (∀ j, j ≠ n → h' j = h j) ∧ n' = n + 1 := by
  have : Wp (doAlloc env 25) h n fun v' h' n' => v' = .ptr n 0 ∧ h' = upd h n (some (.row (.l [.int .u64 0, .int .u64 0, .int .u64 0, .int .u64 0]) 25)) ∧ n' = n + 1 := by
    simp only [core1, tyr, zeroOf, cel, alloc, doAlloc, newRow, and_self, wp_pure, wp_new]
  refine wp_mono this fun v h' n' hh => ?_
  obtain ⟨a, b, c⟩ := hh
  subst b
  exact ⟨a, arr_0 (upd_same _ _ _), fun j hj => upd_ne _ _ hj, c⟩
set_option maxHeartbeats 4000000 in
theorem f10 (t by_ of most : Nat) (h : Hp) (n : Nat) (ht : t < b256) (hm : most < b256) (hby : by_ < 18446744073709551616) (hof : of < 18446744073709551616) (hf : Free h n) : Wp (callI env (evalW env) 10 [W t, .int .u64 (by_ : Nat), .int .u64 (of : Nat), W most]) h n fun v' h' n' => v' = scaleA t by_ of most ∧ Old h h' n := by
  refine wp_callI ff10 fi10 ?_
  have hw : ∀ c, W c = .agg [.int .u64 (wd c 0 : Nat), .int .u64 (wd c 1 : Nat), .int .u64 (wd c 2 : Nat), .int .u64 (wd c 3 : Nat)] := fun _ => rfl
  rw [hw t, hw most]
  simp (disch := omega) only [fu10, Try.f10, Option.getD_some, List.replicate, core1, tyr, fgr, hkr, execOp, opd, opds, ofValue, putT, put, nth, forgetL, doCall, callV_func, zeroOf, readCells, cellsOf, aggB, cel, alloc, doAlloc, newRow, ended, resultOf, oneOrTup, rowK, List.append_eq, List.cons_append, List.nil_append, List.append_nil, List.length_cons, List.length_nil, Nat.reduceAdd, Nat.reduceSub, true_and, Nat.zero_add, memr, List.take_succ_cons, List.take_zero, List.drop_zero, Nat.ble, Cont.size, Cont.sub, upd_same, upd_ne, Option.some.injEq, exists_eq_left', true_and, List.length_cons, List.length_nil]
  refine opv_callf (((hf.new).new).new) (f39 t _ _ ht) fun v1 h1 n1 hn1 hf1 ⟨e1, o1⟩ => ?_
  subst e1
  have k8 : Arr .u64 h1 (n + 1 + 1) 4 (fun _ => 0) := arr_0 ((o1 _ (by omega)).trans (upd_same _ _ _))
  have k4 : Arr .u64 h1 n 4 (fun j => (wd t j : Nat)) := arr_W ((o1 _ (by omega)).trans (by rw [upd_ne _ _ (by omega), upd_ne _ _ (by omega)]; exact upd_same _ _ _))
  have k7 : Arr .u64 h1 (n + 1) 4 (fun j => (wd most j : Nat)) := arr_W ((o1 _ (by omega)).trans (by rw [upd_ne _ _ (by omega)]; exact upd_same _ _ _))
  have oh : Old h h1 n := fun j hj => by rw [o1 j (by omega)]; simp (disch := omega) only [upd_ne]
  by_cases h0 : t = 0
  · have e : scaleV t by_ of most = none := if_pos (.inl h0)
    have hd := decide_eq_true h0
    simp only [core1, tyr, fgr, execOp, opd, ofValue, ops2, putT, put, nth, forgetL, sizeOf, doPick, branch, cel, getO, List.getElem?_cons_succ, List.getElem?_cons_zero, build, fill, hd]
    refine opv_all4 k8 ti25 rfl fun bb hbb => ?_
    simp only [core1, fgr, execOp, opd, ofValue, putT, put, nth, forgetL, true_and, wp_pure, wp_rd (hbb.all ti25 rfl rfl), range4, pick4]
    exact ⟨by rw [scaleA, e]; rfl, fun j hj => by rw [upd_ne _ _ (by omega)]; exact oh j hj⟩
  have hd := decide_eq_false h0
  simp only [core1, execOp, opd, putT, put, nth, List.getElem?_cons_succ, List.getElem?_cons_zero, hd]
  rw [opv_rd (k7.all ti25 rfl rfl), range4]
  simp only [core1, hkr, execOp, opd, opds, putT, put, nth, doCall, callV_func, List.getElem?_cons_succ, List.getElem?_cons_zero, List.nil_append, List.append_nil]
  refine opv_callf hf1 (f39 most _ _ hm) fun v1 h2 n2 hn2 hf2 ⟨e1, o2⟩ => ?_
  subst e1
  have k8 := k8.keep (o2 _ (by omega))
  have k4 := k4.keep (o2 _ (by omega))
  have k7 := k7.keep (o2 _ (by omega))
  have oh := oh.trans o2 (by omega)
  by_cases h1' : most = 0
  · have e : scaleV t by_ of most = none := if_pos (.inr (.inl h1'))
    have hd2 := decide_eq_true h1'
    simp only [core1, tyr, fgr, execOp, opd, ofValue, ops2, putT, put, nth, forgetL, sizeOf, doPick, branch, cel, getO, List.getElem?_cons_succ, List.getElem?_cons_zero, build, fill, hd2]
    refine opv_all4 k8 ti25 rfl fun bb hbb => ?_
    simp only [core1, fgr, execOp, opd, ofValue, putT, put, nth, forgetL, true_and, wp_pure, wp_rd (hbb.all ti25 rfl rfl), range4, pick4]
    exact ⟨by rw [scaleA, e]; rfl, fun j hj => by rw [upd_ne _ _ (by omega)]; exact oh j hj⟩
  have hd2 := decide_eq_false h1'
  simp only [core1, hkr, execOp, opd, opds, ofValue, putT, put, nth, doCall, callV_func, unOp, doPick, branch, List.getElem?_cons_succ, List.getElem?_cons_zero, List.nil_append, List.append_nil, hd2, opv_det (f40 _ _ by_)]
  have hob : (decide (1 ≤ by_) && decide (by_ ≤ 1099511627776)) = okB by_ := rfl
  have hoo : (decide (1 ≤ of) && decide (of ≤ 1099511627776)) = okB of := rfl
  by_cases h2' : okB by_ = false
  · have e : scaleV t by_ of most = none := if_pos (.inr (.inr (.inl h2')))
    simp only [core1, tyr, fgr, execOp, opd, ofValue, ops2, putT, put, nth, forgetL, sizeOf, doPick, branch, cel, getO, List.getElem?_cons_succ, List.getElem?_cons_zero, Bool.not_false, build, fill, hob, h2']
    refine opv_all4 k8 ti25 rfl fun bb hbb => ?_
    simp only [core1, fgr, execOp, opd, ofValue, putT, put, nth, forgetL, true_and, wp_pure, wp_rd (hbb.all ti25 rfl rfl), range4, pick4]
    exact ⟨by rw [scaleA, e]; rfl, fun j hj => by rw [upd_ne _ _ (by omega)]; exact oh j hj⟩
  have h2' : okB by_ = true := by simpa using h2'
  simp only [core1, fgr, hkr, execOp, opd, opds, ofValue, putT, put, nth, forgetL, doCall, callV_func, unOp, doPick, branch, List.getElem?_cons_succ, List.getElem?_cons_zero, List.nil_append, List.append_nil, Bool.not_true, hob, h2', opv_det (f40 _ _ of)]
  by_cases h3' : okB of = false
  · have e : scaleV t by_ of most = none := if_pos (.inr (.inr (.inr h3')))
    simp only [core1, tyr, execOp, opd, ops2, putT, put, nth, sizeOf, cel, getO, Bool.not_false, build, fill, hoo, h3']
    refine opv_all4 k8 ti25 rfl fun bb hbb => ?_
    simp only [core1, fgr, execOp, opd, ofValue, putT, put, nth, forgetL, true_and, wp_pure, wp_rd (hbb.all ti25 rfl rfl), range4, pick4]
    exact ⟨by rw [scaleA, e]; rfl, fun j hj => by rw [upd_ne _ _ (by omega)]; exact oh j hj⟩
  have h3' : okB of = true := by simpa using h3'
  simp only [core1, Bool.not_true, hoo, h3']
  have e : scaleV t by_ of most = some (if most < t * by_ / of then most else if t * by_ / of = 0 then 1 else t * by_ / of) := by
    unfold scaleV
    rw [if_neg (by simp [h0, h1', h2', h3'])]
  have hby1 : 1 ≤ by_ ∧ by_ ≤ 1099511627776 := by simpa [okB] using h2'
  have hof1 : 1 ≤ of ∧ of ≤ 1099511627776 := by simpa [okB] using h3'
  have hb2 : by_ < b256 := by unfold b256; omega
  have ho2 : of < b256 := by unfold b256; omega
  refine run_draw.2 ⟨rfl, ?_⟩
  simp only [fe_cons, execOp, opd, nth]
  rw [fev_rd (k4.all ti25 rfl rfl), range4]
  simp only [fe_cons, fev_pure, hkr, execOp, opd, opds, putT, put, nth, doCall, callV_func, List.nil_append, List.append_nil, Nat.reduceAdd, Nat.zero_add]
  refine fev_free hf2 (f19 of _ _ hof) (f19 of _ _ hof) fun v3 h3 n3 hn3 hf3 ⟨e3, o3⟩ => ?_
  subst e3
  simp only [fe_cons, hkr, execOp, opd, opds, putT, put, nth, doCall, callV_func, List.nil_append, List.append_nil, Nat.reduceAdd]
  refine fev_free hf3 (f34 t of _ _ ht ho2 Free.none) (f34 t of _ _ ht ho2 hf3) fun v4 h4 n4 hn4 hf4 ⟨e4, o4⟩ => ?_
  subst e4
  simp only [fe_cons, fev_pure, core1, tyr, execOp, opd, putT, put, nth, zeroOf, cel, alloc, doAlloc, newRow, extract, getO, List.getElem?_cons_succ, List.getElem?_cons_zero, Nat.reduceAdd, W]
  have hof0 : ¬ of = 0 := by omega
  simp only [if_neg hof0]
  refine fev_free hf4 (al25 _ _) (al25 _ _) fun v5 h5 n5 hn5 hf5 ⟨e5, a5, o5, en5⟩ => ?_
  subst e5; subst en5
  simp only [fe_cons, core1, tyr, execOp, putT, put, zeroOf, cel, alloc, doAlloc, newRow, Nat.reduceAdd]
  refine fev_free hf5 (al25 _ _) (al25 _ _) fun v6 h6 n6 hn6 hf6 ⟨e6, a6, o6, en6⟩ => ?_
  subst e6; subst en6
  simp only [fe_cons, execOp, opd, putT, put, nth, Nat.reduceAdd]
  refine fev_all4 (a5.keep (o6 _ (by omega))) ti25 rfl fun b7 k10 => ?_
  simp only [fe_cons, execOp, opd, putT, nth, Nat.reduceAdd]
  refine fev_all4 (a6.upd (by omega)) ti25 rfl fun b8 k11 => ?_
  simp only [fe_nil, fe_cons, fev_pure, core1, fgr, execOp, opd, putT, put, nth, forgetL, Nat.reduceAdd]
  refine ⟨(by (try simp (disch := omega) only [fine, List.all_cons, List.all_nil, clash_pl, clash_pr, Bool.not_false, Bool.true_or, Bool.and_true, Bool.true_and, clash_rw, clash_ww, clash_nn, clash_nw, clash_xn]); repeat' (first | rfl | exact (Bool.or_eq_true _ _).mpr (.inr rfl) | refine (Bool.and_eq_true _ _).mpr ⟨?_, ?_⟩)), ?_⟩
  have kq : Arr .u64 (upd (upd h6 n4 (some b7)) (n4 + 1) (some b8)) n4 4 (fun j => (wd (t / of) j : Nat)) := (pick_wd k10).upd (by omega)
  have kr : Arr .u64 (upd (upd h6 n4 (some b7)) (n4 + 1) (some b8)) (n4 + 1) 4 (fun j => (wd (t % of) j : Nat)) := pick_wd k11
  have s3 : ∀ j, j < n2 → (upd (upd h6 n4 (some b7)) (n4 + 1) (some b8)) j = h2 j := fun j hj => by
    rw [upd_ne _ _ (by omega), upd_ne _ _ (by omega), o6 j (by omega), o5 j (by omega), o4 j (by omega), o3 j (by omega)]
  have f3 : Free (upd (upd h6 n4 (some b7)) (n4 + 1) (some b8)) (n4 + 1 + 1) := (hf6.upd (by omega)).upd (by omega)
  generalize upd (upd h6 n4 (some b7)) (n4 + 1) (some b8) = H3 at *
  have k8 := k8.keep (s3 _ (by omega))
  have k7 := k7.keep (s3 _ (by omega))
  have oh : Old h H3 n := fun j hj => by rw [s3 j (by omega)]; exact oh j hj
  -- the whole
  have hq256 : t / of < b256 := Nat.lt_of_le_of_lt (Nat.div_le_self _ _) ht
  have hr256 : t % of < b256 := Nat.lt_of_le_of_lt (Nat.mod_le _ _) ht
  refine run_draw.2 ⟨rfl, ?_⟩
  simp only [fe_cons, execOp, opd, nth]
  rw [fev_rd (kq.all ti25 rfl rfl), range4]
  simp only [fe_cons, fev_pure, hkr, execOp, opd, opds, putT, put, nth, doCall, callV_func, List.nil_append, List.append_nil, Nat.reduceAdd, Nat.zero_add]
  refine fev_free f3 (f19 by_ _ _ hby) (f19 by_ _ _ hby) fun v3 g3 m3 hm3 hg3 ⟨e3, p3⟩ => ?_
  subst e3
  simp only [fe_cons, hkr, execOp, opd, opds, putT, put, nth, doCall, callV_func, List.nil_append, List.append_nil, Nat.reduceAdd]
  refine fev_free hg3 (f28 (t / of) by_ _ _ hq256 hb2 Free.none) (f28 (t / of) by_ _ _ hq256 hb2 hg3) fun v4 g4 m4 hm4 hg4 ⟨e4, p4⟩ => ?_
  subst e4
  simp only [fe_cons, fev_pure, core1, tyr, execOp, opd, putT, put, nth, zeroOf, cel, alloc, doAlloc, newRow, extract, getO, List.getElem?_cons_succ, List.getElem?_cons_zero, Nat.reduceAdd, W]
  refine fev_free hg4 (al25 _ _) (al25 _ _) fun v5 g5 m5 hm5 hg5 ⟨e5, a5, p5, em5⟩ => ?_
  subst e5; subst em5
  simp only [fe_cons, core1, tyr, execOp, putT, put, zeroOf, cel, alloc, doAlloc, newRow, Nat.reduceAdd]
  refine fev_free hg5 (al25 _ _) (al25 _ _) fun v6 g6 m6 hm6 hg6 ⟨e6, a6, p6, em6⟩ => ?_
  subst e6; subst em6
  simp only [fe_cons, execOp, opd, putT, put, nth, Nat.reduceAdd]
  refine fev_all4 (a5.keep (p6 _ (by omega))) ti25 rfl fun b9 l10 => ?_
  simp only [fe_cons, execOp, opd, putT, nth, Nat.reduceAdd]
  refine fev_all4 (a6.upd (by omega)) ti25 rfl fun b10 l11 => ?_
  simp only [fe_nil, core1, fgr, putT, forgetL, Nat.reduceAdd]
  refine ⟨(by (try simp (disch := omega) only [fine, List.all_cons, List.all_nil, clash_pl, clash_pr, Bool.not_false, Bool.true_or, Bool.and_true, Bool.true_and, clash_rw, clash_ww, clash_nn, clash_nw, clash_xn]); repeat' (first | rfl | exact (Bool.or_eq_true _ _).mpr (.inr rfl) | refine (Bool.and_eq_true _ _).mpr ⟨?_, ?_⟩)), ?_⟩
  have kw : Arr .u64 (upd (upd g6 m4 (some b9)) (m4 + 1) (some b10)) m4 4 (fun j => (wd (t / of * by_ % b256) j : Nat)) := (pick_wd l10).upd (by omega)
  have kh : Arr .u64 (upd (upd g6 m4 (some b9)) (m4 + 1) (some b10)) (m4 + 1) 4 (fun j => (wd (t / of * by_ / b256) j : Nat)) := pick_wd l11
  have s4 : ∀ j, j < n4 + 1 + 1 → (upd (upd g6 m4 (some b9)) (m4 + 1) (some b10)) j = H3 j := fun j hj => by
    rw [upd_ne _ _ (by omega), upd_ne _ _ (by omega), p6 j (by omega), p5 j (by omega), p4 j (by omega), p3 j (by omega)]
  have f4 : Free (upd (upd g6 m4 (some b9)) (m4 + 1) (some b10)) (m4 + 1 + 1) := (hg6.upd (by omega)).upd (by omega)
  generalize upd (upd g6 m4 (some b9)) (m4 + 1) (some b10) = H4 at *
  have k8 := k8.keep (s4 _ (by omega))
  have k7 := k7.keep (s4 _ (by omega))
  have kr := kr.keep (s4 _ (by omega))
  have oh : Old h H4 n := fun j hj => by rw [s4 j (by omega)]; exact oh j hj
  -- the part
  refine run_draw.2 ⟨rfl, ?_⟩
  simp only [fe_cons, execOp, opd, nth]
  rw [fev_rd (kr.all ti25 rfl rfl), range4]
  simp only [fe_cons, fev_pure, hkr, execOp, opd, opds, putT, put, nth, doCall, callV_func, List.nil_append, List.append_nil, Nat.reduceAdd, Nat.zero_add]
  refine fev_free f4 (f19 by_ _ _ hby) (f19 by_ _ _ hby) fun v3 q3 w3 hw3 hq3 ⟨e3, r3⟩ => ?_
  subst e3
  simp only [fe_cons, hkr, execOp, opd, opds, putT, put, nth, doCall, callV_func, List.nil_append, List.append_nil, Nat.reduceAdd]
  refine fev_free hq3 (f28 (t % of) by_ _ _ hr256 hb2 Free.none) (f28 (t % of) by_ _ _ hr256 hb2 hq3) fun v4 q4 w4 hw4 hq4 ⟨e4, r4⟩ => ?_
  subst e4
  simp only [fe_cons, fev_pure, core1, tyr, execOp, opd, putT, put, nth, zeroOf, cel, alloc, doAlloc, newRow, extract, getO, List.getElem?_cons_succ, List.getElem?_cons_zero, Nat.reduceAdd, W]
  refine fev_free hq4 (al25 _ _) (al25 _ _) fun v5 q5 w5 hw5 hq5 ⟨e5, a5, r5, ew5⟩ => ?_
  subst e5; subst ew5
  simp only [fe_cons, core1, tyr, execOp, putT, put, zeroOf, cel, alloc, doAlloc, newRow, Nat.reduceAdd]
  refine fev_free hq5 (al25 _ _) (al25 _ _) fun v6 q6 w6 hw6 hq6 ⟨e6, a6, r6, ew6⟩ => ?_
  subst e6; subst ew6
  simp only [fe_cons, execOp, opd, putT, put, nth, Nat.reduceAdd]
  refine fev_all4 (a5.keep (r6 _ (by omega))) ti25 rfl fun b11 l10 => ?_
  simp only [fe_cons, execOp, opd, putT, nth, Nat.reduceAdd]
  refine fev_all4 (a6.upd (by omega)) ti25 rfl fun b12 l11 => ?_
  simp only [fe_nil, core1, fgr, putT, forgetL, Nat.reduceAdd]
  refine ⟨(by (try simp (disch := omega) only [fine, List.all_cons, List.all_nil, clash_pl, clash_pr, Bool.not_false, Bool.true_or, Bool.and_true, Bool.true_and, clash_rw, clash_ww, clash_nn, clash_nw, clash_xn]); repeat' (first | rfl | exact (Bool.or_eq_true _ _).mpr (.inr rfl) | refine (Bool.and_eq_true _ _).mpr ⟨?_, ?_⟩)), ?_⟩
  have hrb : t % of * by_ < b256 := by
    have h1 : t % of < of := Nat.mod_lt _ (by omega)
    have h2 : t % of * by_ ≤ 1099511627776 * 1099511627776 := Nat.mul_le_mul (by omega) hby1.2
    unfold b256; omega
  have kp : Arr .u64 (upd (upd q6 w4 (some b11)) (w4 + 1) (some b12)) w4 4 (fun j => (wd (t % of * by_) j : Nat)) := by
    have := pick_wd l10
    rw [Nat.mod_eq_of_lt hrb] at this
    exact this.upd (by omega)
  have s5 : ∀ j, j < m4 + 1 + 1 → (upd (upd q6 w4 (some b11)) (w4 + 1) (some b12)) j = H4 j := fun j hj => by
    rw [upd_ne _ _ (by omega), upd_ne _ _ (by omega), r6 j (by omega), r5 j (by omega), r4 j (by omega), r3 j (by omega)]
  have f5 : Free (upd (upd q6 w4 (some b11)) (w4 + 1) (some b12)) (w4 + 1 + 1) := (hq6.upd (by omega)).upd (by omega)
  generalize upd (upd q6 w4 (some b11)) (w4 + 1) (some b12) = H5 at *
  have k8 := k8.keep (s5 _ (by omega))
  have k7 := k7.keep (s5 _ (by omega))
  have kw := kw.keep (s5 _ (by omega))
  have kh := kh.keep (s5 _ (by omega))
  have oh : Old h H5 n := fun j hj => by rw [s5 j (by omega)]; exact oh j hj
  -- .. of it
  refine run_draw.2 ⟨rfl, ?_⟩
  simp only [fe_cons, execOp, opd, nth]
  rw [fev_rd (kp.all ti25 rfl rfl), range4]
  simp only [fe_cons, fev_pure, hkr, execOp, opd, opds, putT, put, nth, doCall, callV_func, List.nil_append, List.append_nil, Nat.reduceAdd, Nat.zero_add]
  refine fev_free f5 (f19 of _ _ hof) (f19 of _ _ hof) fun v3 c3 d3 hd3 hc3 ⟨e3, x3⟩ => ?_
  subst e3
  simp only [fe_cons, hkr, execOp, opd, opds, putT, put, nth, doCall, callV_func, List.nil_append, List.append_nil, Nat.reduceAdd]
  refine fev_free hc3 (f34 (t % of * by_) of _ _ hrb ho2 Free.none) (f34 (t % of * by_) of _ _ hrb ho2 hc3) fun v4 c4 d4 hd4 hc4 ⟨e4, x4⟩ => ?_
  subst e4
  simp only [fe_cons, fev_pure, execOp, opd, putT, put, nth, extract, getO, List.getElem?_cons_succ, List.getElem?_cons_zero, Nat.reduceAdd, W, if_neg hof0]
  refine fev_all4 (kp.keep ((x4 _ (by omega)).trans (x3 _ (by omega)))) ti25 rfl fun b13 l13 => ?_
  simp only [fe_nil, core1, fgr, execOp, opd, putT, nth, forgetL, Nat.reduceAdd]
  refine ⟨(by (try simp (disch := omega) only [fine, List.all_cons, List.all_nil, clash_pl, clash_pr, Bool.not_false, Bool.true_or, Bool.and_true, Bool.true_and, clash_nn, clash_nw, clash_xn]); repeat' (first | rfl | exact (Bool.or_eq_true _ _).mpr (.inr rfl) | refine (Bool.and_eq_true _ _).mpr ⟨?_, ?_⟩)), ?_⟩
  have kpp : Arr .u64 (upd c4 w4 (some b13)) w4 4 (fun j => (wd (t % of * by_ / of) j : Nat)) := pick_wd l13
  have s6 : ∀ j, j < w4 → (upd c4 w4 (some b13)) j = H5 j := fun j hj => by rw [upd_ne _ _ (by omega), x4 j (by omega), x3 j (by omega)]
  have f6 : Free (upd c4 w4 (some b13)) d4 := hc4.upd (by omega)
  generalize upd c4 w4 (some b13) = H6 at *
  have k8 := k8.keep (s6 _ (by omega))
  have k7 := k7.keep (s6 _ (by omega))
  have kw := kw.keep (s6 _ (by omega))
  have kh := kh.keep (s6 _ (by omega))
  have oh : Old h H6 n := fun j hj => by rw [s6 j (by omega)]; exact oh j hj
  have hA : t / of * by_ % b256 < b256 := Nat.mod_lt _ (by decide)
  have hB : t % of * by_ / of < b256 := Nat.lt_of_le_of_lt (Nat.div_le_self _ _) hrb
  have hq : t * by_ / of = t / of * by_ + t % of * by_ / of := by
    have h1 : t * by_ = t % of * by_ + (t / of * by_) * of := by
      conv => lhs; rw [← Nat.div_add_mod t of]
      grind
    rw [h1, Nat.add_mul_div_right _ _ (by omega), Nat.add_comm]
  have hqm := Nat.div_add_mod (t / of * by_) b256
  rw [opv_rd (kw.all ti25 rfl rfl), range4]
  simp only [core1, execOp, opd, putT, put, nth]
  rw [opv_rd (kpp.all ti25 rfl rfl), range4]
  simp only [core1, hkr, execOp, opd, opds, putT, put, nth, doCall, callV_func, List.nil_append, List.append_nil]
  refine opv_callf f6 (f27 _ _ _ _ hA hB f6) fun v6 H7 n7 hn7 f7 ⟨e6, o7⟩ => ?_
  subst e6
  have k8 := k8.keep (o7 _ (by omega))
  have k7 := k7.keep (o7 _ (by omega))
  have kh := kh.keep (o7 _ (by omega))
  have oh := oh.trans o7 (by omega)
  simp only [core1, tyr, execOp, opd, putT, put, nth, zeroOf, cel, alloc, doAlloc, newRow, extract, getO, List.getElem?_cons_succ, List.getElem?_cons_zero, W]
  obtain ⟨H8, hH8⟩ : ∃ H8, H8 = upd H7 n7 (some (Blk.row (Cont.l [AVal.int IntKind.u64 0, AVal.int IntKind.u64 0, AVal.int IntKind.u64 0, AVal.int IntKind.u64 0]) 25)) := ⟨_, rfl⟩
  rw [← hH8]
  have a8 : Arr .u64 H8 n7 4 (fun _ => 0) := arr_0 (by rw [hH8]; exact upd_same _ _ _)
  have o8 : ∀ j, j < n7 → H8 j = H7 j := fun j hj => by rw [hH8, upd_ne _ _ (by omega)]
  have f8 : Free H8 (n7 + 1) := by rw [hH8]; exact f7.new
  refine opv_all4 a8 ti25 rfl fun b9 k17 => ?_
  have k17 := pick_wd k17
  have s9 : ∀ j, j < n7 → (upd H8 n7 (some b9)) j = H7 j := fun j hj => by rw [upd_ne _ _ (by omega), o8 j (by omega)]
  have f9' : Free (upd H8 n7 (some b9)) (n7 + 1) := f8.upd (by omega)
  generalize upd H8 n7 (some b9) = H9 at *
  have k8 := k8.keep (s9 _ (by omega))
  have k7 := k7.keep (s9 _ (by omega))
  have kh := kh.keep (s9 _ (by omega))
  have oh : Old h H9 n := fun j hj => by rw [s9 j (by omega)]; exact oh j hj
  simp only [core1, fgr, execOp, opd, putT, put, nth, forgetL]
  rw [opv_rd (kh.all ti25 rfl rfl), range4]
  simp only [core1, hkr, execOp, opd, opds, putT, put, nth, doCall, callV_func, List.nil_append, List.append_nil]
  have hh256 : t / of * by_ / b256 < b256 := Nat.div_lt_of_lt_mul (by
    have h1 : t / of * by_ < b256 * b256 := Nat.mul_lt_mul_of_lt_of_le hq256 (Nat.le_of_lt hb2) (by decide)
    exact h1)
  refine opv_callf f9' (f39 _ _ _ hh256) fun v9 H10 n10 hn10 f10 ⟨e9, o10⟩ => ?_
  subst e9
  have k8 := k8.keep (o10 _ (by omega))
  have k7 := k7.keep (o10 _ (by omega))
  have k17 := k17.keep (o10 _ (by omega))
  have oh := oh.trans o10 (by omega)
  by_cases z1 : t / of * by_ / b256 = 0
  case neg =>
    have v : (if most < t * by_ / of then most else if t * by_ / of = 0 then 1 else t * by_ / of) = most := if_pos (by
      have hge : b256 ≤ t / of * by_ := Nat.le_of_not_lt fun hlt => z1 (Nat.div_eq_of_lt hlt)
      rw [hq]
      exact Nat.lt_of_lt_of_le hm (Nat.le_trans hge (Nat.le_add_right _ _)))
    have zd := decide_eq_false z1
    simp only [core1, fgr, execOp, opd, ofValue, putT, put, nth, forgetL, unOp, doPick, branch, List.getElem?_cons_succ, List.getElem?_cons_zero, Bool.not_false, zd]
    rw [opv_rd (k7.all ti25 rfl rfl), range4]
    simp only [core1, execOp, opd, putT, put, nth]
    refine opv_all4 k8 ti25 rfl fun bb hbb => ?_
    simp only [core1, fgr, execOp, opd, ofValue, putT, put, nth, forgetL, true_and, wp_pure, wp_rd (hbb.all ti25 rfl rfl), range4, pick4]
    exact ⟨by rw [scaleA, e, v]; rfl, fun j hj => by rw [upd_ne _ _ (by omega)]; exact oh j hj⟩
  have zd := decide_eq_true z1
  have hAq : t / of * by_ % b256 = t / of * by_ := by rw [z1] at hqm; omega
  rw [hAq, ← hq]
  rw [hAq, ← hq] at k17
  by_cases z2 : b256 ≤ t * by_ / of
  · have v : (if most < t * by_ / of then most else if t * by_ / of = 0 then 1 else t * by_ / of) = most := if_pos (by omega)
    have zd2 := decide_eq_true z2
    simp only [core1, fgr, execOp, opd, ofValue, putT, put, nth, forgetL, unOp, doPick, branch, List.getElem?_cons_succ, List.getElem?_cons_zero, Bool.not_true, zd, zd2]
    rw [opv_rd (k7.all ti25 rfl rfl), range4]
    simp only [core1, execOp, opd, putT, put, nth]
    refine opv_all4 k8 ti25 rfl fun bb hbb => ?_
    simp only [core1, fgr, execOp, opd, ofValue, putT, put, nth, forgetL, true_and, wp_pure, wp_rd (hbb.all ti25 rfl rfl), range4, pick4]
    exact ⟨by rw [scaleA, e, v]; rfl, fun j hj => by rw [upd_ne _ _ (by omega)]; exact oh j hj⟩
  have zd2 := decide_eq_false z2
  have hQ : t * by_ / of < b256 := by omega
  rw [Nat.mod_eq_of_lt hQ] at k17
  simp only [core1, execOp, opd, ofValue, putT, put, nth, unOp, doPick, branch, List.getElem?_cons_succ, List.getElem?_cons_zero, Bool.not_true, zd, zd2]
  rw [opv_rd (k17.all ti25 rfl rfl), range4]
  simp only [core1, execOp, opd, putT, put, nth, List.getElem?_cons_succ, List.getElem?_cons_zero]
  rw [opv_rd (k7.all ti25 rfl rfl), range4]
  simp only [core1, hkr, execOp, opd, opds, putT, put, nth, doCall, callV_func, List.getElem?_cons_succ, List.getElem?_cons_zero, List.nil_append, List.append_nil]
  refine opv_callf f10 (f17 _ _ _ _ hQ hm f10) fun v11 H11 n11 hn11 f11 ⟨e11, o11⟩ => ?_
  subst e11
  have k8 := k8.keep (o11 _ (by omega))
  have k7 := k7.keep (o11 _ (by omega))
  have k17 := k17.keep (o11 _ (by omega))
  have oh := oh.trans o11 (by omega)
  by_cases z3 : most < t * by_ / of
  · have v : (if most < t * by_ / of then most else if t * by_ / of = 0 then 1 else t * by_ / of) = most := if_pos z3
    have zd3 : (if t * by_ / of = most then (0 : Int) else if t * by_ / of < most then -1 else 1) = 1 := by rw [if_neg (by omega), if_neg (by omega)]
    simp only [core1, fgr, execOp, opd, ofValue, putT, put, nth, forgetL, bor, binInt, shiftB, intOp, doPick, branch, List.getElem?_cons_succ, List.getElem?_cons_zero, Int.reduceLT, Int.reduceNeg, gt_iff_lt, decide_true, zd3]
    rw [opv_rd (k7.all ti25 rfl rfl), range4]
    simp only [core1, execOp, opd, putT, put, nth]
    refine opv_all4 k8 ti25 rfl fun bb hbb => ?_
    simp only [core1, fgr, execOp, opd, ofValue, putT, put, nth, forgetL, true_and, wp_pure, wp_rd (hbb.all ti25 rfl rfl), range4, pick4]
    exact ⟨by rw [scaleA, e, v]; rfl, fun j hj => by rw [upd_ne _ _ (by omega)]; exact oh j hj⟩
  have zd3 : ∃ z : Int, (if t * by_ / of = most then (0 : Int) else if t * by_ / of < most then -1 else 1) = z ∧ ¬ 0 < z := by
    by_cases e1 : t * by_ / of = most
    · exact ⟨0, if_pos e1, by decide⟩
    · exact ⟨-1, by rw [if_neg e1, if_pos (by omega)], by decide⟩
  obtain ⟨z, zz, zn⟩ := zd3
  simp only [core1, fgr, execOp, opd, ofValue, putT, put, nth, forgetL, bor, binInt, shiftB, intOp, doPick, branch, List.getElem?_cons_succ, List.getElem?_cons_zero, Int.reduceNeg, gt_iff_lt, decide_true, decide_false, zz, zn]
  rw [opv_rd (k17.all ti25 rfl rfl), range4]
  simp only [core1, hkr, execOp, opd, opds, putT, put, nth, doCall, callV_func, List.nil_append, List.append_nil]
  refine opv_callf f11 (f39 _ _ _ hQ) fun v12 H12 n12 hn12 f12 ⟨e12, o12⟩ => ?_
  subst e12
  have k8 := k8.keep (o12 _ (by omega))
  have k17 := k17.keep (o12 _ (by omega))
  have oh := oh.trans o12 (by omega)
  by_cases z4 : t * by_ / of = 0
  · have v : (if most < t * by_ / of then most else if t * by_ / of = 0 then 1 else t * by_ / of) = 1 := by rw [if_neg z3, if_pos z4]
    have zd4 := decide_eq_true z4
    simp only [core1, fgr, hkr, execOp, opd, opds, ofValue, putT, put, nth, forgetL, doCall, callV_func, List.nil_append, List.append_nil, zd4]
    refine opv_callf f12 (f19 1 _ _ (by decide)) fun v13 H13 n13 hn13 f13 ⟨e13, o13⟩ => ?_
    subst e13
    have k8 := k8.keep (o13 _ (by omega))
    have oh := oh.trans o13 (by omega)
    simp only [core1, execOp, opd, putT, put, nth, W]
    refine opv_all4 k8 ti25 rfl fun bb hbb => ?_
    simp only [core1, fgr, execOp, opd, ofValue, putT, put, nth, forgetL, true_and, wp_pure, wp_rd (hbb.all ti25 rfl rfl), range4, pick4]
    exact ⟨by rw [scaleA, e, v]; rfl, fun j hj => by rw [upd_ne _ _ (by omega)]; exact oh j hj⟩
  have v : (if most < t * by_ / of then most else if t * by_ / of = 0 then 1 else t * by_ / of) = t * by_ / of := by rw [if_neg z3, if_neg z4]
  have zd4 := decide_eq_false z4
  simp only [core1, fgr, execOp, opd, putT, put, nth, forgetL, zd4]
  rw [opv_rd (k17.all ti25 rfl rfl), range4]
  simp only [core1, execOp, opd, putT, put, nth]
  refine opv_all4 k8 ti25 rfl fun bb hbb => ?_
  simp only [core1, fgr, execOp, opd, ofValue, putT, put, nth, forgetL, true_and, wp_pure, wp_rd (hbb.all ti25 rfl rfl), range4, pick4]
  exact ⟨by rw [scaleA, e, v]; rfl, fun j hj => by rw [upd_ne _ _ (by omega)]; exact oh j hj⟩
/- Bits of numbers, numbers of bits, and sums of bits: the document's. -/
theorem t78 : und env 78 = M.pure (.slice 3) := rfl
theorem s3 : sizeOf env 3 = M.pure 1 := rfl
/-- A number's bits in memory of their own. -/
def Bt (h : Hp) (n : Nat) (v : AVal) (a m : Nat) : Prop := ∃ id, id < n ∧ v = .sl id 0 m (some m) 1 ∧ ∃ e, h id = some (.row (.l (cellsF .i64 m (bit a))) e)
theorem Bt.nums {h : Hp} {n : Nat} {v : AVal} {a m : Nat} (hb : Bt h n v a m) : ∃ id, id < n ∧ ownId v = some id ∧ Nums .i64 h v id 0 m m (bit a) := by
  obtain ⟨id, h1, rfl, e, h2⟩ := hb
  exact ⟨id, h1, rfl, ⟨_, rfl⟩, by omega, e, h2⟩
theorem Bt.old {h h' : Hp} {n n' : Nat} {v : AVal} {a m : Nat} (hb : Bt h n v a m) (ho : Old h h' n) (hn : n ≤ n') : Bt h' n' v a m := by
  obtain ⟨id, h1, e1, e, h2⟩ := hb
  exact ⟨id, by omega, e1, e, (ho id h1).trans h2⟩
/-- .. that was just made. -/
def NewB (h : Hp) (n : Nat) (v : AVal) (a m : Nat) (h' : Hp) (n' : Nat) : Prop := Bt h' n' v a m ∧ (∀ j, ownId v = some j → n ≤ j) ∧ Old h h' n
theorem loop44 (Q : Post0) (ks : List Kf) (a i1 i3 n : Nat) (v y2 : AVal) (d1 : i1 ≠ i3) (b3 : i3 < n) (h0 : Hp)
    (hq : ∀ (h : Hp) (x0 x4 x7 : AVal), Nums .i64 h v i3 0 256 256 (bit a) → (∀ j, j ≠ i3 → h j = h0 j) → Kont env 44 none Q ks (.exit 0) (x0 :: .ptr i1 0 :: y2 :: v :: x4 :: AVal.junk :: AVal.junk :: x7 :: AVal.junk :: AVal.junk :: AVal.junk :: AVal.junk :: AVal.junk :: AVal.junk :: AVal.junk :: AVal.junk :: AVal.junk :: AVal.junk :: AVal.junk :: AVal.junk :: AVal.junk :: AVal.junk :: AVal.junk :: AVal.junk :: []) h n) :
    ∀ (k i : Nat) (h : Hp) (x0 x7 : AVal), i + k = 256 → Arr .u64 h i1 4 (fun j => (wd a j : Nat)) → Nums .i64 h v i3 0 256 256 (fun j => if j < i then bit a j else 0) → (∀ j, j ≠ i3 → h j = h0 j) →
    Run env 44 none Q (.loop lp44_0) ks (x0 :: .ptr i1 0 :: y2 :: v :: .int .i64 (i : Nat) :: AVal.junk :: AVal.junk :: x7 :: AVal.junk :: AVal.junk :: AVal.junk :: AVal.junk :: AVal.junk :: AVal.junk :: AVal.junk :: AVal.junk :: AVal.junk :: AVal.junk :: AVal.junk :: AVal.junk :: AVal.junk :: AVal.junk :: AVal.junk :: AVal.junk :: []) h n := by
  intro k
  induction k with
  | zero =>
    intro i h x0 x7 hi ha hv hk
    have : i = 256 := by omega
    subst this
    have hc : ¬ ((256 : Nat) : Int) < 256 := by decide
    rw [run_loop]
    simp only [lp44_0, loopsOf, Try.f44, Option.getD_some, core1, fgr, execOp, opd, ofValue, putT, put, nth, forgetL, bor, binInt, shiftB, intOp, List.nil_append, List.append_nil, Int.cast_ofNat_Int, Int.reduceLT, decide_true, decide_false, List.getD_cons_zero]
    exact hq h _ _ _ (hv.ext fun j hj => if_pos hj) hk
  | succ k ih =>
    intro i h x0 x7 hi ha hv hk
    have h4 : i < 256 := by omega
    have hc : ((i : Nat) : Int) < 256 := by omega
    have hw : IntKind.i64.wrap (((i : Nat) : Int) + 1) = ((i + 1 : Nat) : Int) := by rw [w64 (by omega) (by omega)]; omega
    have q1 : IntKind.i64.wrap (Int.tdiv ((i : Nat) : Int) 64) = ((i / 64 : Nat) : Int) := by rw [Int.tdiv_eq_ediv_of_nonneg (by omega), w64 (by omega) (by omega)]; omega
    have q2 : Int.tmod ((i : Nat) : Int) 64 = ((i % 64 : Nat) : Int) := by rw [Int.tmod_eq_emod_of_nonneg (by omega)]; omega
    have q3 : IntKind.u64.wrap ((i % 64 : Nat) : Int) = ((i % 64 : Nat) : Int) := wu64 (by omega) (by omega)
    have h64 : i / 64 < 4 := by omega
    have h0r : (0 : Int) ≤ ((i % 64 : Nat) : Int) := by omega
    have hlt : wd a (i / 64) / 2 ^ (i % 64) < 18446744073709551616 := Nat.lt_of_le_of_lt (Nat.div_le_self _ _) (wd_lt _ _)
    have hbit := bit_wd a i
    have hb2 : a / 2 ^ i % 2 < 2 := Nat.mod_lt _ (by decide)
    have q4 : IntKind.i64.wrap ((a / 2 ^ i % 2 : Nat) : Int) = ((a / 2 ^ i % 2 : Nat) : Int) := w64 (by omega) (by omega)
    rw [run_loop]
    simp only [lp44_0, loopsOf, Try.f44, Option.getD_some, core1, fgr, execOp, opd, ofValue, putT, put, nth, forgetL, bor, binInt, shiftB, intOp, wrapI, List.nil_append, List.append_nil, Int.reduceNe, decide_true, true_and, List.getD_cons_zero, hc, q1]
    rw [opv_rd (arr_idx t25 s23 rfl h64)]
    simp only [core1, execOp, opd, putT, put, nth]
    rw [opv_rd (ha.load ti23 rfl h64)]
    simp only [core1, tyr, execOp, opd, ofValue, putT, put, nth, und, lenOf, bor, binInt, shiftB, shiftOp, intOp, wrapI, strK, intK, Int.reduceNe, decide_true, true_and, convert, convStr, isU8, q2, q3, h0r, ushr _ (i % 64) (by omega), umask1 hlt, hbit, q4]
    rw [opv_rd (hv.idx0 t78 s3 rfl h4)]
    simp only [core1, execOp, opd, putT, put, nth]
    refine hv.store0 ti3 rfl h4 fun b hb => ?_
    simp only [core1, fgr, execOp, opd, ofValue, putT, put, nth, forgetL, bor, binInt, shiftB, intOp, wrapI, decide_true, hw]
    refine ih (i + 1) _ _ _ (by omega) (ha.upd d1) (hb.ext fun j hj => ?_) (fun j hj => by rw [upd_ne _ _ hj]; exact hk j hj)
    by_cases e : j = i
    · subst e
      simp only [if_pos (Nat.lt_succ_self j), ↓reduceIte]; rfl
    · by_cases e2 : j < i
      · simp only [if_neg e, if_pos e2, if_pos (show j < i + 1 by omega)]
      · simp only [if_neg e, if_neg e2, if_neg (show ¬ j < i + 1 by omega)]
theorem f44 (a : Nat) (h : Hp) (n : Nat) : Wp (callI env (evalW env) 44 [W a]) h n fun v' h' n' => NewB h n v' a 256 h' n' := by
  refine wp_callI ff44 fi44 ?_
  simp (disch := omega) only [fu44, Try.f44, Option.getD_some, List.replicate, core1, tyr, fgr, execOp, opd, ofValue, putT, put, nth, forgetL, cel, alloc, newRow, ended, resultOf, oneOrTup, List.cons_append, List.nil_append, List.length_cons, List.length_nil, Nat.reduceSub, Nat.zero_add, wp_pure, List.length_cons, List.length_nil, W]
  refine nums_make (m := 256) rfl t78 ti3 rfl rfl (by decide) (by decide) fun hv => ?_
  simp only [core1, fgr, execOp, opd, ofValue, putT, put, nth, forgetL]
  refine loop44 _ _ a n (n + 1) (n + 1 + 1) _ _ (by omega) (by omega) _ ?_ 256 0 _ _ _ rfl (arr_W (by rw [upd_ne _ _ (by omega)]; exact upd_same _ _ _)) (hv.ext fun j hj => by simp) (fun _ _ => rfl)
  intro h' x0 x4 x7 hv hk
  simp only [core1, fgr, execOp, opd, putT, put, nth, forgetL, true_and]
  obtain ⟨_, _, e, he⟩ := hv
  refine ⟨⟨n + 1, by omega, rfl, e, he⟩, fun j hj => by injection hj with hj; omega, fun j hj => ?_⟩
  rw [hk j (by omega)]
  simp (disch := omega) only [upd_ne]
/- Numbers of bits, and sums of bits: the document's. -/
theorem p256 : b256 = 2 ^ 256 := by decide
theorem loop65 (Q : Post0) (ks : List Kf) (a i3 id off tot n : Nat) (v y2 : AVal) (g : Nat → Int) (hg : ∀ j, j < 256 → g (off + j) = bit a j) (d1 : id ≠ i3) (b3 : i3 < n) (h0 : Hp)
    (hq : ∀ (h : Hp) (x0 x4 x12 x19 : AVal), Arr .u64 h i3 4 (fun j => (wd (a % b256) j : Nat)) → (∀ j, j ≠ i3 → h j = h0 j) → Kont env 65 none Q ks (.exit 0) (x0 :: AVal.junk :: y2 :: .ptr i3 0 :: x4 :: AVal.junk :: AVal.junk :: AVal.junk :: AVal.junk :: AVal.junk :: AVal.junk :: AVal.junk :: x12 :: AVal.junk :: AVal.junk :: AVal.junk :: AVal.junk :: AVal.junk :: AVal.junk :: x19 :: AVal.junk :: AVal.junk :: AVal.junk :: AVal.junk :: AVal.junk :: AVal.junk :: AVal.junk :: AVal.junk :: AVal.junk :: AVal.junk :: AVal.junk :: AVal.junk :: AVal.junk :: []) h n) :
    ∀ (k i : Nat) (h : Hp) (x12 x19 : AVal), i + k = 256 → Nums .i64 h v id off 256 tot g → Arr .u64 h i3 4 (fun j => (wd (a % 2 ^ i) j : Nat)) → (∀ j, j ≠ i3 → h j = h0 j) →
    Run env 65 none Q (.loop lp65_0) ks (v :: AVal.junk :: y2 :: .ptr i3 0 :: .int .i64 (i : Nat) :: AVal.junk :: AVal.junk :: AVal.junk :: AVal.junk :: AVal.junk :: AVal.junk :: AVal.junk :: x12 :: AVal.junk :: AVal.junk :: AVal.junk :: AVal.junk :: AVal.junk :: AVal.junk :: x19 :: AVal.junk :: AVal.junk :: AVal.junk :: AVal.junk :: AVal.junk :: AVal.junk :: AVal.junk :: AVal.junk :: AVal.junk :: AVal.junk :: AVal.junk :: AVal.junk :: AVal.junk :: []) h n := by
  intro k
  induction k with
  | zero =>
    intro i h x12 x19 hi hv ha hk
    have : i = 256 := by omega
    subst this
    have hc : ¬ ((256 : Nat) : Int) < 256 := by decide
    have hc2 : ¬ ((256 : Nat) : Int) < ((256 : Nat) : Int) := by decide
    rw [run_loop]
    simp only [lp65_0, loopsOf, Try.f65, Option.getD_some, core1, fgr, execOp, opd, opds, ofValue, putT, put, nth, forgetL, doCall, builtin, one1, bor, binInt, shiftB, intOp, doPick, branch, List.getElem?_cons_succ, List.getElem?_cons_zero, List.nil_append, List.append_nil, Int.cast_ofNat_Int, Int.reduceLT, decide_true, decide_false, List.getD_cons_zero, hv.len t78]
    exact hq h _ _ _ _ (ha.ext fun j hj => by rw [p256]) hk
  | succ k ih =>
    intro i h x12 x19 hi hv ha hk
    have h4 : i < 256 := by omega
    have hc : ((i : Nat) : Int) < 256 := by omega
    have hc2 : ((i : Nat) : Int) < ((256 : Nat) : Int) := by omega
    have hw : IntKind.i64.wrap (((i : Nat) : Int) + 1) = ((i + 1 : Nat) : Int) := by rw [w64 (by omega) (by omega)]; omega
    have q1 : IntKind.i64.wrap (Int.tdiv ((i : Nat) : Int) 64) = ((i / 64 : Nat) : Int) := by rw [Int.tdiv_eq_ediv_of_nonneg (by omega), w64 (by omega) (by omega)]; omega
    have q2 : Int.tmod ((i : Nat) : Int) 64 = ((i % 64 : Nat) : Int) := by rw [Int.tmod_eq_emod_of_nonneg (by omega)]; omega
    have q3 : IntKind.u64.wrap ((i % 64 : Nat) : Int) = ((i % 64 : Nat) : Int) := wu64 (by omega) (by omega)
    have h64 : i / 64 < 4 := by omega
    have hr64 : i % 64 < 64 := Nat.mod_lt _ (by decide)
    have h0r : (0 : Int) ≤ ((i % 64 : Nat) : Int) := by omega
    rw [run_loop]
    simp only [lp65_0, loopsOf, Try.f65, Option.getD_some, core1, fgr, execOp, opd, opds, ofValue, putT, put, nth, forgetL, doCall, builtin, one1, bor, binInt, shiftB, intOp, doPick, branch, List.getElem?_cons_succ, List.getElem?_cons_zero, List.nil_append, List.append_nil, Int.cast_ofNat_Int, decide_true, List.getD_cons_zero, hv.len t78, hc]
    rw [opv_rd (hv.idx t78 s3 rfl h4)]
    simp only [core1, execOp, opd, putT, put, nth]
    rw [opv_rd (hv.load ti3 rfl h4), hg i h4]
    have hms := mod_succ_bit a i
    rcases bit_lt a i with hb | hb
    · have hb' : a / 2 ^ i % 2 = 0 := by unfold bit at hb; omega
      simp only [core1, fgr, execOp, opd, ofValue, putT, put, nth, forgetL, bor, binInt, shiftB, intOp, wrapI, Int.reduceLT, gt_iff_lt, decide_true, decide_false, hb, hw]
      refine ih (i + 1) h _ _ (by omega) hv (ha.ext fun j hj => by rw [hms, hb', Nat.mul_zero, Nat.add_zero]) hk
    · have hb' : a / 2 ^ i % 2 = 1 := by unfold bit at hb; omega
      have hQ : a % 2 ^ i < 2 ^ i := Nat.mod_lt _ (Nat.two_pow_pos _)
      have hlow := fun j => low_bit (a % 2 ^ i) i j hQ
      have hsum : (wd (a % 2 ^ i) (i / 64) + 2 ^ (i % 64)) % 18446744073709551616 = wd (a % 2 ^ (i + 1)) (i / 64) := by
        have := hlow (i / 64)
        rw [if_pos rfl] at this
        rw [hms, hb', Nat.mul_one, this, Nat.mod_eq_of_lt]
        rw [← this]
        exact wd_lt _ _
      simp only [core1, fgr, execOp, opd, ofValue, putT, put, nth, forgetL, bor, binInt, shiftB, intOp, wrapI, Int.reduceLT, Int.reduceNe, gt_iff_lt, decide_true, true_and, hb, q1]
      rw [opv_rd (arr_idx t25 s23 rfl h64)]
      simp only [core1, execOp, opd, putT, put, nth]
      rw [opv_rd (ha.load ti23 rfl h64)]
      simp only [core1, tyr, execOp, opd, ofValue, putT, put, nth, und, lenOf, bor, binInt, shiftB, shiftOp, intOp, wrapI, strK, intK, Int.reduceNe, decide_true, true_and, convert, convStr, isU8, q2, q3, h0r, ushl1 _ hr64, uwrap_add, hsum]
      rw [opv_rd (arr_idx t25 s23 rfl h64)]
      simp only [core1, execOp, opd, putT, put, nth]
      refine opv_arr ha ti23 rfl h64 fun b hb2 => ?_
      simp only [core1, fgr, execOp, opd, ofValue, putT, put, nth, forgetL, bor, binInt, shiftB, intOp, wrapI, decide_true, hw]
      refine ih (i + 1) _ _ _ (by omega) (hv.upd d1) (hb2.ext fun j hj => ?_) (fun j hj => by rw [upd_ne _ _ hj]; exact hk j hj)
      by_cases e : j = i / 64
      · simp only [if_pos e]
        rw [e]
      · simp only [if_neg e]
        rw [hms, hb', Nat.mul_one, hlow j, if_neg e]
theorem f65 (v : AVal) (a id off tot : Nat) (g : Nat → Int) (hg : ∀ j, j < 256 → g (off + j) = bit a j) (h : Hp) (n : Nat) (hid : id < n) (hv : Nums .i64 h v id off 256 tot g) : Wp (callI env (evalW env) 65 [v]) h n fun v' h' n' => v' = W (a % b256) ∧ Old h h' n := by
  refine wp_callI ff65 fi65 ?_
  simp (disch := omega) only [fu65, Try.f65, Option.getD_some, List.replicate, core1, tyr, fgr, execOp, opd, ofValue, putT, put, forgetL, zeroOf, cel, alloc, doAlloc, newRow, ended, resultOf, oneOrTup, List.cons_append, List.nil_append, List.length_cons, List.length_nil, Nat.reduceSub, Nat.zero_add, List.length_cons, List.length_nil, W]
  refine loop65 _ _ a (n + 1) id off tot (n + 1 + 1) v _ g hg (by omega) (by omega) _ ?_ 256 0 _ _ _ rfl ((hv.upd (by omega)).upd (by omega)) ((arr_0 (upd_same _ _ _)).ext fun j hj => ?_) (fun _ _ => rfl)
  · intro h' x0 x4 x12 x19 ho hk
    simp only [core1, execOp, opd, nth]
    rw [opv_rd (ho.all ti25 rfl rfl), range4]
    simp only [core1, execOp, opd, putT, put, nth]
    have h2 : Arr .u64 h' n 4 (fun _ => 0) := arr_0 ((hk _ (by omega)).trans (by rw [upd_ne _ _ (by omega)]; exact upd_same _ _ _))
    refine opv_all4 h2 ti25 rfl fun bb hbb => ?_
    simp only [core1, fgr, putT, nth, forgetL, true_and, wp_pure, wp_rd (hbb.all ti25 rfl rfl), range4, pick4]
    intro j hj
    rw [upd_ne _ _ (by omega), hk j (by omega)]
    simp (disch := omega) only [upd_ne]
  · rw [Nat.pow_zero, Nat.mod_one]; unfold wd; simp
end Go.Am.Ytmlagocbphoedaa
