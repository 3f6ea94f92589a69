/- Plain laws of a number's bytes. -/
-- env NumEnv
import Derived.Test.YtfomdaajpembmaaNumI
set_option linter.unusedSimpArgs false
set_option linter.unusedVariables false
set_option linter.defProp false
set_option maxRecDepth 10000
namespace Go.Am.Ytfomdaajpembmaa
open Go Go.Am Go.Proofs
theorem dig1 {m : Nat} (h : 0 < m) (h2 : m < 256) : dig m = [UInt8.ofNat m] := by
  rw [dig_pos h, show m / 256 = 0 by omega, dig_zero, show m % 256 = m by omega]
theorem dig2 {m : Nat} (h : 256 ≤ m) (h2 : m < 65536) : dig m = [UInt8.ofNat (m % 256), UInt8.ofNat (m / 256)] := by
  rw [dig_pos (by omega), dig1 (by omega) (by omega)]
theorem dig3 {m : Nat} (h : 65536 ≤ m) (h2 : m < 16777216) : dig m = [UInt8.ofNat (m % 256), UInt8.ofNat (m / 256 % 256), UInt8.ofNat (m / 65536)] := by
  rw [dig_pos (by omega), dig2 (by omega) (by omega), show m / 256 / 256 = m / 65536 by omega]
theorem dig4 {m : Nat} (h : 16777216 ≤ m) (h2 : m < 4294967296) : dig m = [UInt8.ofNat (m % 256), UInt8.ofNat (m / 256 % 256), UInt8.ofNat (m / 65536 % 256), UInt8.ofNat (m / 16777216)] := by
  rw [dig_pos (by omega), dig3 (by omega) (by omega), show m / 256 / 256 = m / 65536 by omega, show m / 256 / 65536 = m / 16777216 by omega]
theorem dig5 {m : Nat} (h : 4294967296 ≤ m) (h2 : m < 1099511627776) : dig m = [UInt8.ofNat (m % 256), UInt8.ofNat (m / 256 % 256), UInt8.ofNat (m / 65536 % 256), UInt8.ofNat (m / 16777216 % 256), UInt8.ofNat (m / 4294967296)] := by
  rw [dig_pos (by omega), dig4 (by omega) (by omega), show m / 256 / 256 = m / 65536 by omega, show m / 256 / 65536 = m / 16777216 by omega, show m / 256 / 16777216 = m / 4294967296 by omega]
theorem fin1 (s : Nat) (a : UInt8) : fin s [a] = if 128 ≤ a.toNat then [a, UInt8.ofNat s] else [UInt8.ofNat (a.toNat + s)] := by simp [fin]
theorem fin2 (s : Nat) (a b : UInt8) : fin s [a, b] = if 128 ≤ b.toNat then [a, b, UInt8.ofNat s] else [a, UInt8.ofNat (b.toNat + s)] := by simp [fin]
theorem fin3 (s : Nat) (a b c : UInt8) : fin s [a, b, c] = if 128 ≤ c.toNat then [a, b, c, UInt8.ofNat s] else [a, b, UInt8.ofNat (c.toNat + s)] := by simp [fin]
theorem fin4 (s : Nat) (a b c d : UInt8) : fin s [a, b, c, d] = if 128 ≤ d.toNat then [a, b, c, d, UInt8.ofNat s] else [a, b, c, UInt8.ofNat (d.toNat + s)] := by simp [fin]
theorem fin5 (s : Nat) (a b c d e : UInt8) : fin s [a, b, c, d, e] = if 128 ≤ e.toNat then [a, b, c, d, e, UInt8.ofNat s] else [a, b, c, d, UInt8.ofNat (e.toNat + s)] := by simp [fin]
theorem toN (k : Nat) : (UInt8.ofNat k).toNat = k % 256 := by rw [UInt8.toNat_ofNat']
/-- What stands of bytes of a number. -/
def Good (x : Int) (l : List UInt8) : Prop :=
  (tv l = true ↔ ¬ x = 0) ∧ l.length ≤ 5 ∧ (-2147483647 ≤ x ∧ x ≤ 2147483647 → l.length ≤ 4 ∧ num4 l = x) ∧ (¬ (-2147483647 ≤ x ∧ x ≤ 2147483647) → l.length = 5)
theorem fm_all (x : Int) (h1 : -549755813888 < x) (h2 : x < 549755813888) : Good x (fmB x) := by
  unfold fmB
  have hm : x.natAbs < 549755813888 := by omega
  obtain ⟨m, e⟩ : ∃ m, x.natAbs = m := ⟨_, rfl⟩
  rw [e] at hm ⊢
  have hs : (sgn x = 128 ∧ x = -(m : Int) ∧ 0 < m) ∨ (sgn x = 0 ∧ x = (m : Int)) := by
    unfold sgn; split <;> omega
  by_cases c0 : m = 0
  · subst c0
    have : x = 0 := by omega
    subst this
    rw [dig_zero, fin_nil]
    exact ⟨by simp [tv], by simp, fun _ => ⟨by simp, rfl⟩, fun h => absurd ⟨by decide, by decide⟩ h⟩
  by_cases c1 : m < 256
  · rw [dig1 (by omega) c1, fin1, toN]
    by_cases hg : 128 ≤ m % 256
    · rw [if_pos hg]
      rcases hs with ⟨hs, hx, _⟩ | ⟨hs, hx⟩ <;> rw [hs] <;>
      refine ⟨by simp only [tv, toN, Bool.or_eq_true, Bool.and_eq_true, decide_eq_true_eq]; omega, by simp, fun _ => ⟨by simp, ?_⟩, fun hh => by omega⟩ <;>
      simp only [num4, toN] <;> split <;> omega
    · rw [if_neg hg]
      rcases hs with ⟨hs, hx, _⟩ | ⟨hs, hx⟩ <;> rw [hs] <;>
      refine ⟨by simp only [tv, toN, Bool.or_eq_true, Bool.and_eq_true, decide_eq_true_eq]; omega, by simp, fun _ => ⟨by simp, ?_⟩, fun hh => by omega⟩ <;>
      simp only [num4, toN] <;> split <;> omega
  by_cases c2 : m < 65536
  · rw [dig2 (by omega) c2, fin2, toN]
    by_cases hg : 128 ≤ m / 256 % 256
    · rw [if_pos hg]
      rcases hs with ⟨hs, hx, _⟩ | ⟨hs, hx⟩ <;> rw [hs] <;>
      refine ⟨by simp only [tv, toN, Bool.or_eq_true, Bool.and_eq_true, decide_eq_true_eq]; omega, by simp, fun _ => ⟨by simp, ?_⟩, fun hh => by omega⟩ <;>
      simp only [num4, toN] <;> split <;> omega
    · rw [if_neg hg]
      rcases hs with ⟨hs, hx, _⟩ | ⟨hs, hx⟩ <;> rw [hs] <;>
      refine ⟨by simp only [tv, toN, Bool.or_eq_true, Bool.and_eq_true, decide_eq_true_eq]; omega, by simp, fun _ => ⟨by simp, ?_⟩, fun hh => by omega⟩ <;>
      simp only [num4, toN] <;> split <;> omega
  by_cases c3 : m < 16777216
  · rw [dig3 (by omega) c3, fin3, toN]
    by_cases hg : 128 ≤ m / 65536 % 256
    · rw [if_pos hg]
      rcases hs with ⟨hs, hx, _⟩ | ⟨hs, hx⟩ <;> rw [hs] <;>
      refine ⟨by simp only [tv, toN, Bool.or_eq_true, Bool.and_eq_true, decide_eq_true_eq]; omega, by simp, fun _ => ⟨by simp, ?_⟩, fun hh => by omega⟩ <;>
      simp only [num4, toN] <;> split <;> omega
    · rw [if_neg hg]
      rcases hs with ⟨hs, hx, _⟩ | ⟨hs, hx⟩ <;> rw [hs] <;>
      refine ⟨by simp only [tv, toN, Bool.or_eq_true, Bool.and_eq_true, decide_eq_true_eq]; omega, by simp, fun _ => ⟨by simp, ?_⟩, fun hh => by omega⟩ <;>
      simp only [num4, toN] <;> split <;> omega
  by_cases c4 : m < 4294967296
  · rw [dig4 (by omega) c4, fin4, toN]
    by_cases hg : 128 ≤ m / 16777216 % 256
    · rw [if_pos hg]
      rcases hs with ⟨hs, hx, _⟩ | ⟨hs, hx⟩ <;> rw [hs] <;>
      exact ⟨by simp only [tv, toN, Bool.or_eq_true, Bool.and_eq_true, decide_eq_true_eq]; omega, by simp, fun hh => by omega, fun hh => by simp⟩
    · rw [if_neg hg]
      rcases hs with ⟨hs, hx, _⟩ | ⟨hs, hx⟩ <;> rw [hs] <;>
      refine ⟨by simp only [tv, toN, Bool.or_eq_true, Bool.and_eq_true, decide_eq_true_eq]; omega, by simp, fun _ => ⟨by simp, ?_⟩, fun hh => by omega⟩ <;>
      simp only [num4, toN] <;> split <;> omega
  · rw [dig5 (by omega) (by omega), fin5, toN]
    have hg : ¬ 128 ≤ m / 4294967296 % 256 := by omega
    rw [if_neg hg]
    rcases hs with ⟨hs, hx, _⟩ | ⟨hs, hx⟩ <;> rw [hs] <;>
    exact ⟨by simp only [tv, toN, Bool.or_eq_true, Bool.and_eq_true, decide_eq_true_eq]; omega, by simp, fun hh => by omega, fun hh => by simp⟩
theorem num4_r (l : List UInt8) : -4294967296 < num4 l ∧ num4 l < 4294967296 := by
  unfold num4
  split
  · rename_i a; have := a.toNat_lt; split <;> omega
  · rename_i a b; have := a.toNat_lt; have := b.toNat_lt; split <;> omega
  · rename_i a b c; have := a.toNat_lt; have := b.toNat_lt; have := c.toNat_lt; split <;> omega
  · rename_i a b c d; have := a.toNat_lt; have := b.toNat_lt; have := c.toNat_lt; have := d.toNat_lt; split <;> omega
  · decide
end Go.Am.Ytfomdaajpembmaa
