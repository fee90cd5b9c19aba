/- The plain mathematics of 'Free' of package rest. -/
import Derived.Test.YtkgdejhooghknaaH4
namespace Go.Proofs.Ytkgdejhooghknaa
open Go.RowKit Go.Lap

theorem hasBit_nat (n k : Nat) : hasBit (n : Int) (k : Int) = n.testBit k := by
  have h : (n : Int) >>> k = ((n >>> k : Nat) : Int) := rfl
  rw [hasBit, Int.toNat_natCast, h, Nat.shiftRight_eq_div_pow, Nat.testBit_eq_decide_div_mod_eq]
  generalize n / 2 ^ k = q
  by_cases h2 : q % 2 = 1
  · have : (((q : Nat) : Int) % 2 == 1) = true := by simp; omega
    rw [this]; simp [h2]
  · have : (((q : Nat) : Int) % 2 == 1) = false := by simp; omega
    rw [this]; simp [h2]

theorem and_two_pow (n k : Nat) : n &&& 2 ^ k = (n.testBit k).toNat * 2 ^ k := by
  apply Nat.eq_of_testBit_eq
  intro i
  rw [Nat.testBit_and, Nat.testBit_two_pow]
  cases hb : n.testBit k
  · by_cases h : k = i
    · subst h; simp [hb]
    · simp [h]
  · by_cases h : k = i
    · subst h; simp [hb]
    · simp [h]

/-- A set without a number. -/
def clr (set k : Int) : Int := if hasBit set k then set - 2 ^ k.toNat else set

theorem andNot_nat (n k : Nat) (hn : n ≤ 65535) (hk : k ≤ 15) : bits .andNot .i64 (n : Int) (2 ^ k : Int) = clr n k := by
  have hp : ((2 : Int) ^ k) = ((2 ^ k : Nat) : Int) := by simp
  have hk2 : 2 ^ k ≤ 2 ^ 15 := Nat.pow_le_pow_right (by decide) hk
  rw [clr, hasBit_nat, Int.toNat_natCast, hp]
  have ea : (BitVec.ofInt 64 (n : Int)).toNat = n := by rw [BitVec.toNat_ofInt]; omega
  have eb : (BitVec.ofInt 64 ((2 ^ k : Nat) : Int)).toNat = 2 ^ k := by
    rw [BitVec.toNat_ofInt]
    generalize 2 ^ k = p at hk2
    omega
  show IntKind.i64.wrap ((BitVec.ofInt 64 (n : Int) &&& ~~~ BitVec.ofInt 64 ((2 ^ k : Nat) : Int)).toNat : Nat) = _
  generalize BitVec.ofInt 64 (n : Int) = x at *
  generalize BitVec.ofInt 64 ((2 ^ k : Nat) : Int) = y at *
  have h1 : (x &&& ~~~ y) + (x &&& y) = x := by
    rw [BitVec.add_eq_or_of_and_eq_zero]
    · ext i hi
      simp only [BitVec.getElem_or, BitVec.getElem_and, BitVec.getElem_not]
      cases x[i] <;> cases y[i] <;> rfl
    · ext i hi
      simp only [BitVec.getElem_and, BitVec.getElem_not, BitVec.getElem_zero]
      cases x[i] <;> cases y[i] <;> rfl
  have h2 := congrArg BitVec.toNat h1
  rw [BitVec.toNat_add] at h2
  have h3 : (x &&& y).toNat = (n.testBit k).toNat * 2 ^ k := by rw [BitVec.toNat_and, ea, eb, and_two_pow]
  have h4 : (x &&& ~~~ y).toNat ≤ n := by rw [← ea, BitVec.toNat_and]; exact Nat.and_le_left
  have h5 : (x &&& y).toNat ≤ n := by rw [← ea, BitVec.toNat_and]; exact Nat.and_le_left
  rw [Nat.mod_eq_of_lt (by omega), ea, h3] at h2
  rw [IntKind.wrap_i64]
  cases hb : n.testBit k
  · rw [hb] at h2; simp at h2 ⊢; omega
  · rw [hb] at h2; simp at h2 ⊢; omega

/-- A rest in which a rider can ride in an hour, too. -/
def Rest.clear (R : Rest) (i h : Int) : Rest := if i = 0 then { R with r0 := { R.r0 with out := clr R.r0.out h } } else { R with r1 := { R.r1 with out := clr R.r1.out h } }

/-- Would this hour have to be free, so that there is a right plan? -/
def frees (R : Rest) (i h : Int) : Bool := hasBit (R.rider i).out h && canB (R.clear i h) R.hours

/-- The first hour from one on that a rider would have to have free. -/
def freeIn (R : Rest) (i : Int) : Nat → Int → Option Int
  | 0, _ => none
  | n + 1, h => if frees R i h then some h else freeIn R i n (h + 1)

/-- Which hour would have to be free, and the error. -/
def freeOf (R : Rest) : Int × Int × Int :=
  match freeIn R 0 R.hours.toNat 0 with
  | some h => (0, h, 0)
  | none => match freeIn R 1 R.hours.toNat 0 with
    | some h => (1, h, 0)
    | none => (0, 0, 4)

theorem clr_le {set k : Int} (h0 : 0 ≤ set) (hk : 0 ≤ k) : 0 ≤ clr set k ∧ clr set k ≤ set ∧ (hasBit set k = true → clr set k ≠ set) := by
  obtain ⟨n, rfl⟩ : ∃ n : Nat, set = n := ⟨set.toNat, by omega⟩
  obtain ⟨j, rfl⟩ : ∃ j : Nat, k = j := ⟨k.toNat, by omega⟩
  unfold clr
  rw [hasBit_nat, Int.toNat_natCast, show ((2 : Int) ^ j) = ((2 ^ j : Nat) : Int) by simp]
  cases hb : n.testBit j
  · simp
  · have h1 := Nat.ge_two_pow_of_testBit hb
    have h2 : 0 < 2 ^ j := Nat.pow_pos (by decide)
    generalize 2 ^ j = p at *
    simp only [if_true]
    omega

theorem Rest.clear_valid {R : Rest} {i h : Int} (hv : R.valid = true) (hh : 0 ≤ h) : (R.clear i h).valid = true ∧ (R.clear i h).hours = R.hours := by
  simp only [Rest.valid, Bool.and_eq_true] at hv
  obtain ⟨h1, h2, h3⟩ := hv
  have key : ∀ r : Rider, riderOk r R.hours = true → riderOk { r with out := clr r.out h } R.hours = true := by
    intro r hr
    simp only [riderOk, Bool.and_eq_true] at hr ⊢
    refine ⟨?_, hr.2⟩
    have := hr.1
    simp only [inB, Bool.and_eq_true, decide_eq_true_eq] at this ⊢
    have h4 := clr_le this.1 hh
    omega
  unfold Rest.clear
  split
  · exact ⟨by simp only [Rest.valid, Bool.and_eq_true]; exact ⟨h1, key _ h2, h3⟩, rfl⟩
  · exact ⟨by simp only [Rest.valid, Bool.and_eq_true]; exact ⟨h1, h2, key _ h3⟩, rfl⟩

theorem eq_rider (d : Nat) (a b c e a' b' c' e' : Int) (w : World) : (Op.equalIn (d + 2) 23 (.agg #[.int .i64 a, .int .i64 b, .int .i64 c, .int .i64 e]) (.agg #[.int .i64 a', .int .i64 b', .int .i64 c', .int .i64 e'])).run Try.prog w =
    .ok (a == a' && (b == b' && (c == c' && e == e'))) w := by
  rw [run_equalIn_agg _ _ _ _ _ (by kernel_rfl) (by kernel_rfl)]
  go_simp
  by_cases h1 : a = a' <;> by_cases h2 : b = b' <;> by_cases h3 : c = c' <;> by_cases h4 : e = e' <;> simp [h1, h2, h3, h4]

theorem eq_riders (d : Nat) (a b c e f g h i a' b' c' e' f' g' h' i' : Int) (w : World) : (Op.equalIn (d + 3) 24 (.agg #[.int .i64 a, .int .i64 b, .int .i64 c, .int .i64 e, .int .i64 f, .int .i64 g, .int .i64 h, .int .i64 i]) (.agg #[.int .i64 a', .int .i64 b', .int .i64 c', .int .i64 e', .int .i64 f', .int .i64 g', .int .i64 h', .int .i64 i'])).run Try.prog w =
    .ok ((a == a' && (b == b' && (c == c' && e == e'))) && (f == f' && (g == g' && (h == h' && i == i')))) w := by
  have hr := fun a b c e a' b' c' e' => eq_rider d a b c e a' b' c' e' w
  rw [Op.equalIn]
  simp [Sem.run_bind, run_underlying (show Try.prog.underlying 24 = some (.array 2 23) by kernel_rfl), List.range', go_sem]
  by_cases h0 : a = a'
  case neg => simp [h0]
  by_cases h1 : b = b'
  case neg => simp [h1]
  by_cases h2 : c = c'
  case neg => simp [h2]
  by_cases h3 : e = e'
  case neg => simp [h3]
  by_cases h4 : f = f'
  case neg => simp [h4]
  by_cases h5 : g = g'
  case neg => simp [h5]
  by_cases h6 : h = h'
  case neg => simp [h6]
  by_cases h7 : i = i' <;> simp [h0, h1, h2, h3, h4, h5, h6, h7]

end Go.Proofs.Ytkgdejhooghknaa
