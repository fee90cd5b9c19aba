/- General laws for the walk, over any program: words without a sign. -/
import Derived.Test.YtcgkglonnmkfcaaKit
namespace Go.Lap
open Go.RowKit

/-- What is in one set, and not in another one. -/
def andN (a b : Nat) : Nat := a &&& (b ^^^ (2 ^ 64 - 1))
theorem andN_bit {a b : Nat} (ha : a < 18446744073709551616) (k : Nat) : (andN a b).testBit k = (a.testBit k && !b.testBit k) := by
  unfold andN
  rw [Nat.testBit_and, Nat.testBit_xor, Nat.testBit_two_pow_sub_one]
  by_cases hk : k < 64
  · simp [hk]
  · have : a.testBit k = false := Nat.testBit_lt_two_pow (Nat.lt_of_lt_of_le ha (by
      have := Nat.pow_le_pow_right (n := 2) (by decide) (Nat.le_of_not_lt hk)
      simpa using this))
    simp [this]
theorem andN_le (a b : Nat) : andN a b ≤ a := Nat.and_le_left

theorem toNat_u (a : Nat) (ha : a < 18446744073709551616) : (BitVec.ofInt 64 (a : Int)).toNat = a := by rw [BitVec.toNat_ofInt]; omega
theorem bits_u (a b : Nat) (ha : a < 18446744073709551616) (hb : b < 18446744073709551616) :
    bits .and .u64 (a : Int) (b : Int) = ((a &&& b : Nat) : Int) ∧ bits .or .u64 (a : Int) (b : Int) = ((a ||| b : Nat) : Int) ∧ bits .andNot .u64 (a : Int) (b : Int) = ((andN a b : Nat) : Int) := by
  have ea := toNat_u a ha
  have eb := toNat_u b hb
  have h1 : a &&& b < 18446744073709551616 := Nat.lt_of_le_of_lt Nat.and_le_left ha
  have h2 : a ||| b < 2 ^ 64 := Nat.or_lt_two_pow (by simpa using ha) (by simpa using hb)
  have h3 := Nat.lt_of_le_of_lt (andN_le a b) ha
  refine ⟨?_, ?_, ?_⟩
  · show IntKind.u64.wrap ((BitVec.ofInt 64 a &&& BitVec.ofInt 64 b).toNat : Nat) = _
    rw [BitVec.toNat_and, ea, eb, IntKind.wrap_u64]; omega
  · show IntKind.u64.wrap ((BitVec.ofInt 64 a ||| BitVec.ofInt 64 b).toNat : Nat) = _
    rw [BitVec.toNat_or, ea, eb, IntKind.wrap_u64]; omega
  · show IntKind.u64.wrap ((BitVec.ofInt 64 a &&& ~~~BitVec.ofInt 64 b).toNat : Nat) = _
    have e : (BitVec.ofInt 64 a &&& ~~~BitVec.ofInt 64 b).toNat = andN a b := by
      apply Nat.eq_of_testBit_eq
      intro k
      rw [andN_bit ha, BitVec.testBit_toNat, BitVec.getLsbD_and, BitVec.getLsbD_not, ← BitVec.testBit_toNat, ← BitVec.testBit_toNat, ea, eb]
      by_cases hk : k < 64
      · simp [hk]
      · have : a.testBit k = false := Nat.testBit_lt_two_pow (Nat.lt_of_lt_of_le ha (by
          have := Nat.pow_le_pow_right (n := 2) (by decide) (Nat.le_of_not_lt hk)
          simpa using this))
        simp [this]
    rw [e, IntKind.wrap_u64]; omega
theorem shl_one_u {P : Program} (c : Nat) (h1 : c ≤ 63) (w : World) : (Op.shift .shl .u64 1 .i64 (c : Int)).run P w = .ok (.int .u64 ((2 ^ c : Nat) : Int)) w := by
  have h : ¬ (c : Int) < 0 := by omega
  have h3 : min (c : Int).toNat 64 = c := by omega
  have h4 : 2 ^ c ≤ 2 ^ 63 := Nat.pow_le_pow_right (by decide) h1
  simp only [Op.shift, h, if_false, IntKind.bits, h3]
  show Result.ok (Value.int IntKind.u64 (IntKind.u64.wrap (1 * 2 ^ c))) w = _
  have e : (1 : Int) * 2 ^ c = ((2 ^ c : Nat) : Int) := by simp
  rw [e, IntKind.wrap_u64]
  congr 2
  generalize 2 ^ c = t at h4 ⊢
  omega
theorem shr_u {P : Program} (x c : Nat) (h1 : c ≤ 63) (w : World) : (Op.shift .shr .u64 (x : Int) .i64 (c : Int)).run P w = .ok (.int .u64 ((x >>> c : Nat) : Int)) w := by
  have h : ¬ (c : Int) < 0 := by omega
  have h3 : min (c : Int).toNat 64 = c := by omega
  simp only [Op.shift, h, if_false, IntKind.bits, h3]
  show Result.ok (Value.int IntKind.u64 ((x : Int).fdiv (2 ^ c))) w = _
  rw [Int.fdiv_eq_ediv_of_nonneg _ (Int.le_of_lt (Int.pow_pos (by decide))), Nat.shiftRight_eq_div_pow]
  simp
theorem u64_and1 (x c : Nat) (hx : x < 18446744073709551616) : bits .and .u64 ((x >>> c : Nat) : Int) 1 = if x.testBit c then 1 else 0 := by
  have hy : x >>> c < 18446744073709551616 := by
    rw [Nat.shiftRight_eq_div_pow]
    exact Nat.lt_of_le_of_lt (Nat.div_le_self _ _) hx
  have h := (bits_u (x >>> c) 1 hy (by decide)).1
  rw [show ((1 : Nat) : Int) = 1 from rfl] at h
  rw [h, Nat.and_one_is_mod, Nat.testBit, Nat.and_comm, Nat.and_one_is_mod]
  rcases Nat.mod_two_eq_zero_or_one (x >>> c) with h | h <;> simp [h]
theorem u64_bit (x c : Nat) (hx : x < 18446744073709551616) : bits .and .u64 ((x : Int) / 2 ^ c) 1 = if x.testBit c then 1 else 0 := by
  rw [← u64_and1 x c hx, Nat.shiftRight_eq_div_pow]; simp
theorem pow_u {c : Nat} (hc : c ≤ 63) : 2 ^ c < 18446744073709551616 ∧ IntKind.u64.wrap ((2 : Int) ^ c) = ((2 ^ c : Nat) : Int) := by
  have h2 : 2 ^ c ≤ 2 ^ 63 := Nat.pow_le_pow_right (by decide) hc
  rw [show (2 : Int) ^ c = ((2 ^ c : Nat) : Int) by simp, IntKind.wrap_u64]
  generalize 2 ^ c = t at h2 ⊢
  omega
theorem u64_set (x c : Nat) (hx : x < 18446744073709551616) (hc : c ≤ 63) : bits .or .u64 (x : Int) (IntKind.u64.wrap (2 ^ c)) = ((x ||| 2 ^ c : Nat) : Int) := by
  rw [(pow_u hc).2, (bits_u x (2 ^ c) hx (pow_u hc).1).2.1]

end Go.Lap
