/- Words: what their operations say of numbers. -/
import Derived.Test.YtmoplhbncjicbaaAoM
set_option linter.unusedSimpArgs false
set_option linter.unusedVariables false
set_option linter.defProp false
namespace Go.Am
open Go
theorem uwrap (m : Nat) : IntKind.u64.wrap (m : Int) = ((m % 18446744073709551616 : Nat) : Int) := by
  have h : IntKind.u64.wrap (m : Int) = (m : Int) % 18446744073709551616 := by
    unfold IntKind.wrap
    simp [IntKind.signed, IntKind.bits]
  rw [h]; omega
theorem uwrap_add (x y : Nat) : IntKind.u64.wrap ((x : Int) + (y : Int)) = (((x + y) % 18446744073709551616 : Nat) : Int) := by rw [← Int.natCast_add, uwrap]
theorem uwrap_mul (x y : Nat) : IntKind.u64.wrap ((x : Int) * (y : Int)) = (((x * y) % 18446744073709551616 : Nat) : Int) := by rw [← Int.natCast_mul, uwrap]
theorem ubv {x : Nat} (hx : x < 18446744073709551616) : (BitVec.ofInt IntKind.u64.bits (x : Int)).toNat = x := by
  show (BitVec.ofInt 64 (x : Int)).toNat = x
  rw [BitVec.toNat_ofInt]
  omega
theorem uand {x y : Nat} (hx : x < 18446744073709551616) (hy : y < 18446744073709551616) : IntKind.u64.wrap ((BitVec.ofInt IntKind.u64.bits (x : Int) &&& BitVec.ofInt IntKind.u64.bits (y : Int)).toNat : Int) = ((x &&& y : Nat) : Int) := by
  rw [BitVec.toNat_and, ubv hx, ubv hy, uwrap]
  have : x &&& y ≤ x := Nat.and_le_left
  rw [Nat.mod_eq_of_lt (by omega)]
theorem uor {x y : Nat} (hx : x < 18446744073709551616) (hy : y < 18446744073709551616) : IntKind.u64.wrap ((BitVec.ofInt IntKind.u64.bits (x : Int) ||| BitVec.ofInt IntKind.u64.bits (y : Int)).toNat : Int) = ((x ||| y : Nat) : Int) := by
  rw [BitVec.toNat_or, ubv hx, ubv hy, uwrap]
  have : x ||| y < 2 ^ 64 := Nat.or_lt_two_pow (by omega) (by omega)
  rw [Nat.mod_eq_of_lt (by omega)]
theorem umask32 {x : Nat} (hx : x < 18446744073709551616) : IntKind.u64.wrap ((BitVec.ofInt IntKind.u64.bits (x : Int) &&& BitVec.ofInt IntKind.u64.bits 4294967295).toNat : Int) = ((x % 4294967296 : Nat) : Int) := by
  have := uand (y := 4294967295) hx (by decide)
  rw [show ((4294967295 : Nat) : Int) = 4294967295 from rfl] at this
  rw [this]
  have := Nat.and_two_pow_sub_one_eq_mod x 32
  rw [show 2 ^ 32 - 1 = 4294967295 from rfl, show 2 ^ 32 = 4294967296 from rfl] at this
  rw [this]
theorem umask1 {x : Nat} (hx : x < 18446744073709551616) : IntKind.u64.wrap ((BitVec.ofInt IntKind.u64.bits (x : Int) &&& BitVec.ofInt IntKind.u64.bits 1).toNat : Int) = ((x % 2 : Nat) : Int) := by
  have := uand (y := 1) hx (by decide)
  rw [show ((1 : Nat) : Int) = 1 from rfl] at this
  rw [this, Nat.and_one_is_mod]
/-- .. moved right. -/
theorem ushr (x s : Nat) (hs : s ≤ 64) : Int.fdiv (x : Int) (2 ^ (min ((s : Nat) : Int).toNat IntKind.u64.bits)) = ((x / 2 ^ s : Nat) : Int) := by
  rw [Int.toNat_natCast, show min s IntKind.u64.bits = s from Nat.min_eq_left hs, Int.fdiv_eq_ediv_of_nonneg _ (by exact_mod_cast Nat.zero_le _)]
  norm_cast
/-- .. moved left. -/
theorem ushl (x s : Nat) (hs : s ≤ 64) : IntKind.u64.wrap ((x : Int) * 2 ^ (min ((s : Nat) : Int).toNat IntKind.u64.bits)) = ((x * 2 ^ s % 18446744073709551616 : Nat) : Int) := by
  rw [Int.toNat_natCast, show min s IntKind.u64.bits = s from Nat.min_eq_left hs, ← uwrap]
  norm_cast
theorem ushr32 (x : Nat) : Int.fdiv (x : Int) (2 ^ (min (Int.toNat 32) IntKind.u64.bits)) = ((x / 4294967296 : Nat) : Int) := ushr x 32 (by decide)
/-- The product of two words, by halves. -/
theorem mul_halves {a b : Nat} (ha : a < 18446744073709551616) (hb : b < 18446744073709551616) :
    let w0 := (a % 4294967296) * (b % 4294967296) % 18446744073709551616
    let t := ((a / 4294967296) * (b % 4294967296) % 18446744073709551616 + w0 / 4294967296) % 18446744073709551616
    let w1 := ((t % 4294967296) + (a % 4294967296) * (b / 4294967296) % 18446744073709551616) % 18446744073709551616
    (((a / 4294967296) * (b / 4294967296) % 18446744073709551616 + t / 4294967296) % 18446744073709551616 + w1 / 4294967296) % 18446744073709551616 = a * b / 18446744073709551616 := by
  have e1 : a = a / 4294967296 * 4294967296 + a % 4294967296 := by omega
  have e2 : b = b / 4294967296 * 4294967296 + b % 4294967296 := by omega
  have h1 : a / 4294967296 ≤ 4294967295 := by omega
  have h2 : b / 4294967296 ≤ 4294967295 := by omega
  have h3 : a % 4294967296 ≤ 4294967295 := by omega
  have h4 : b % 4294967296 ≤ 4294967295 := by omega
  generalize a / 4294967296 = a1 at *
  generalize b / 4294967296 = b1 at *
  generalize a % 4294967296 = a0 at *
  generalize b % 4294967296 = b0 at *
  have p00 := Nat.mul_le_mul h3 h4
  have p01 := Nat.mul_le_mul h3 h2
  have p10 := Nat.mul_le_mul h1 h4
  have p11 := Nat.mul_le_mul h1 h2
  have hab : a * b = a1 * b1 * 18446744073709551616 + (a1 * b0 + a0 * b1) * 4294967296 + a0 * b0 := by rw [e1, e2]; grind
  rw [hab]
  generalize a0 * b0 = q00 at *
  generalize a0 * b1 = q01 at *
  generalize a1 * b0 = q10 at *
  generalize a1 * b1 = q11 at *
  simp only
  omega
theorem pow_split (r : Nat) (hr : r ≤ 64) : 2 ^ (64 - r) * 2 ^ r = 18446744073709551616 := by
  rw [← Nat.pow_add, Nat.sub_add_cancel hr]
/-- Word j of what is moved left by r bits. -/
theorem shl_word (y r : Nat) (hr : r < 64) : y / 2 ^ (64 - r) % 18446744073709551616 = (y / 18446744073709551616 * 2 ^ r % 18446744073709551616) + (y % 18446744073709551616) / 2 ^ (64 - r) := by
  have hp := pow_split r (by omega)
  have hpos : 0 < 2 ^ (64 - r) := Nat.two_pow_pos _
  have e : y = (y / 18446744073709551616) * 18446744073709551616 + y % 18446744073709551616 := by omega
  have h1 : y / 2 ^ (64 - r) = y / 18446744073709551616 * 2 ^ r + (y % 18446744073709551616) / 2 ^ (64 - r) := by
    conv => lhs; rw [e, ← hp]
    rw [show y / (2 ^ (64 - r) * 2 ^ r) * (2 ^ (64 - r) * 2 ^ r) = (y / (2 ^ (64 - r) * 2 ^ r) * 2 ^ r) * 2 ^ (64 - r) by rw [Nat.mul_comm (2 ^ (64 - r)), Nat.mul_assoc]]
    rw [Nat.add_comm, Nat.add_mul_div_right _ _ hpos, Nat.add_comm, hp]
  have h2 : (y % 18446744073709551616) / 2 ^ (64 - r) < 2 ^ r := by
    rw [Nat.div_lt_iff_lt_mul hpos, Nat.mul_comm, hp]
    exact Nat.mod_lt _ (by decide)
  rw [h1]
  obtain ⟨q, hq⟩ : ∃ q, y / 18446744073709551616 * 2 ^ r % 18446744073709551616 = q * 2 ^ r := by
    refine ⟨y / 18446744073709551616 % 2 ^ (64 - r), ?_⟩
    rw [← hp, Nat.mul_mod_mul_right]
  have hlt := Nat.mod_lt (y / 18446744073709551616 * 2 ^ r) (show 18446744073709551616 > 0 by decide)
  rw [Nat.add_mod, Nat.mod_eq_of_lt (a := (y % 18446744073709551616) / 2 ^ (64 - r))]
  · rw [Nat.mod_eq_of_lt]
    rw [hq] at hlt ⊢
    have h3 : q < 2 ^ (64 - r) := by
      rw [← hp] at hlt
      exact Nat.lt_of_mul_lt_mul_right hlt
    have h4 : (q + 1) * 2 ^ r ≤ 2 ^ (64 - r) * 2 ^ r := Nat.mul_le_mul_right _ h3
    rw [hp, Nat.add_mul] at h4
    omega
  · have : 2 ^ r ≤ 2 ^ 64 := Nat.pow_le_pow_right (by decide) (by omega)
    omega
/-- Or is plus where no bit is in both. -/
theorem or_low (x y r : Nat) (hx : x % 2 ^ r = 0) (hy : y < 2 ^ r) : x ||| y = x + y := by
  have : x = 2 ^ r * (x / 2 ^ r) := by have := Nat.div_add_mod x (2 ^ r); omega
  rw [this, ← Nat.two_pow_add_eq_or_of_lt hy]
theorem shl_or (y r : Nat) (hr : r < 64) : (y / 18446744073709551616 * 2 ^ r % 18446744073709551616) ||| ((y % 18446744073709551616) / 2 ^ (64 - r)) = y / 2 ^ (64 - r) % 18446744073709551616 := by
  rw [shl_word y r hr]
  have hp := pow_split r (by omega)
  refine or_low _ _ r ?_ ?_
  · rw [← hp, Nat.mul_mod_mul_right, Nat.mul_mod_left]
  · rw [Nat.div_lt_iff_lt_mul (Nat.two_pow_pos _), Nat.mul_comm, hp]
    exact Nat.mod_lt _ (by decide)
theorem wd_mod (x i : Nat) (hi : i < 4) : wd (x % b256) i = wd x i := by
  unfold wd b256
  match i, hi with
  | 0, _ => omega
  | 1, _ => omega
  | 2, _ => omega
  | 3, _ => omega
theorem pow64 (j : Nat) : 2 ^ (64 * (j + 1)) = 2 ^ (64 * j) * 18446744073709551616 := by rw [Nat.mul_add, Nat.pow_add]
theorem wd_succ (a j : Nat) : wd a (j + 1) = a / 2 ^ (64 * j) / 18446744073709551616 % 18446744073709551616 := by unfold wd; rw [pow64, Nat.div_div_eq_div_mul]
theorem mul_div_pow (a x y : Nat) : a * 2 ^ (x + y) / 2 ^ x = a * 2 ^ y := by rw [Nat.pow_add, Nat.mul_comm (2 ^ x), ← Nat.mul_assoc, Nat.mul_div_cancel _ (Nat.two_pow_pos _)]
theorem wd_left0 (a w r : Nat) : wd (a * 2 ^ (64 * w + r)) w = wd a 0 * 2 ^ r % 18446744073709551616 := by
  unfold wd
  rw [mul_div_pow, Nat.mul_zero, Nat.pow_zero, Nat.div_one, Nat.mod_mul_mod]
theorem wd_left (a w r i : Nat) (hr : r < 64) : wd (a * 2 ^ (64 * w + r)) (w + (i + 1)) = (wd a (i + 1) * 2 ^ r % 18446744073709551616) ||| (wd a i / 2 ^ (64 - r)) := by
  have h := shl_or (a / 2 ^ (64 * i)) r hr
  have e1 : wd a (i + 1) * 2 ^ r % 18446744073709551616 = a / 2 ^ (64 * i) / 18446744073709551616 * 2 ^ r % 18446744073709551616 := by rw [wd_succ, Nat.mod_mul_mod]
  have e2 : wd a i = a / 2 ^ (64 * i) % 18446744073709551616 := rfl
  rw [e1, e2, h]
  unfold wd
  have e3 : a * 2 ^ (64 * w + r) / 2 ^ (64 * (w + (i + 1))) = a / 2 ^ (64 * i) / 2 ^ (64 - r) := by
    rw [Nat.div_div_eq_div_mul, ← Nat.pow_add, show 64 * (w + (i + 1)) = (64 * w + r) + (64 * i + (64 - r)) by omega, Nat.pow_add 2 (64 * w + r), Nat.mul_comm a, Nat.mul_div_mul_left _ _ (Nat.two_pow_pos _)]
  rw [e3]
theorem wd_left_lo (a w r i : Nat) (hi : i < w) : wd (a * 2 ^ (64 * w + r)) i = 0 := by
  unfold wd
  rw [show 64 * w + r = 64 * i + (64 + (64 * (w - i - 1) + r)) by omega, mul_div_pow, Nat.pow_add, show (2 : Nat) ^ 64 = 18446744073709551616 from rfl, Nat.mul_comm a, Nat.mul_assoc, Nat.mul_mod_right]
theorem wd_right (a w r j : Nat) (hr : r < 64) : wd (a / 2 ^ (64 * w + r)) j = (wd a (j + w) / 2 ^ r) ||| (wd a (j + w + 1) * 2 ^ (64 - r) % 18446744073709551616) := by
  have e3 : a / 2 ^ (64 * w + r) / 2 ^ (64 * j) = a / 2 ^ (64 * (j + w)) / 2 ^ r := by
    rw [Nat.div_div_eq_div_mul, Nat.div_div_eq_div_mul, ← Nat.pow_add, ← Nat.pow_add]
    congr 2
    omega
  have e1 : wd a (j + w) = a / 2 ^ (64 * (j + w)) % 18446744073709551616 := rfl
  have e2 : wd a (j + w + 1) * 2 ^ (64 - r) % 18446744073709551616 = a / 2 ^ (64 * (j + w)) / 18446744073709551616 * 2 ^ (64 - r) % 18446744073709551616 := by rw [wd_succ, Nat.mod_mul_mod]
  by_cases h0 : r = 0
  · subst h0
    unfold wd
    rw [e3]
    simp only [Nat.pow_zero, Nat.div_one, Nat.sub_zero]
    rw [show (2 : Nat) ^ 64 = 18446744073709551616 from rfl, Nat.mul_mod_left, Nat.or_zero]
  · have h := shl_or (a / 2 ^ (64 * (j + w))) (64 - r) (by omega)
    rw [show 64 - (64 - r) = r by omega] at h
    rw [e1, e2, Nat.or_comm, h]
    unfold wd
    rw [e3]
theorem wd_hi (a i : Nat) (ha : a < b256) (hi : 4 ≤ i) : wd a i = 0 := by
  unfold wd
  have : (2 : Nat) ^ 256 ≤ 2 ^ (64 * i) := Nat.pow_le_pow_right (by decide) (by omega)
  rw [Nat.div_eq_of_lt (Nat.lt_of_lt_of_le ha this), Nat.zero_mod]
theorem unot {x : Nat} (hx : x < 18446744073709551616) : IntKind.u64.wrap ((BitVec.ofInt IntKind.u64.bits 18446744073709551615 ^^^ BitVec.ofInt IntKind.u64.bits (x : Int)).toNat : Int) = ((18446744073709551615 - x : Nat) : Int) := by
  rw [BitVec.toNat_xor, ubv hx, uwrap]
  have h1 : (BitVec.ofInt IntKind.u64.bits 18446744073709551615).toNat = 2 ^ 64 - 1 := by decide
  rw [h1]
  have h2 : (2 ^ 64 - 1) ^^^ x = 2 ^ 64 - 1 - x := by
    have := Nat.xor_comm (2 ^ 64 - 1) x
    apply Nat.eq_of_testBit_eq
    intro i
    rw [Nat.testBit_xor, Nat.testBit_two_pow_sub_one, show 2 ^ 64 - 1 - x = 2 ^ 64 - (x + 1) by omega, Nat.testBit_two_pow_sub_succ (by omega)]
    by_cases h : i < 64
    · rw [decide_eq_true h]; simp
    · rw [decide_eq_false h]
      have : x.testBit i = false := Nat.testBit_lt_two_pow (Nat.lt_of_lt_of_le hx (Nat.pow_le_pow_right (by decide) (by omega) : 2 ^ 64 ≤ 2 ^ i))
      simp [this]
  rw [h2, Nat.mod_eq_of_lt (by omega)]
end Go.Am
