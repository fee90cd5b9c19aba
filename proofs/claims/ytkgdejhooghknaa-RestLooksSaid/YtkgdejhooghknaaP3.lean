/- The plain mathematics of layer 6: fewer hours; hours that are freed. -/
import Derived.Test.YtkgdejhooghknaaP1
namespace Go.Proofs.Ytkgdejhooghknaa
open Go.RowKit Go.Lap

theorem rightL_congr {R R' : Rest} (M : Int) (h : ∀ s : St, (s.rider = 0 ∨ s.rider = 1) → 1 ≤ s.hour → s.hour ≤ M → (broken R' s = 0 ↔ broken R s = 0)) :
    ∀ (n : Nat) (s : St), 0 ≤ s.hour → s.hour + n ≤ M → rightL R' n s = rightL R n s
  | 0, s, _, _ => rfl
  | n + 1, s, h0, h1 => by
    have key : ∀ x : Int, (x = 0 ∨ x = 1) → (if broken R' (s.next x) = 0 then (rightL R' n (s.next x)).map (x :: ·) else []) = (if broken R (s.next x) = 0 then (rightL R n (s.next x)).map (x :: ·) else []) := by
      intro x hx
      have h2 := h (s.next x) hx (by show 1 ≤ s.hour + 1; omega) (by show s.hour + 1 ≤ M; omega)
      have h3 := rightL_congr M h n (s.next x) (by show 0 ≤ s.hour + 1; omega) (by show s.hour + 1 + n ≤ M; omega)
      rw [h3]
      by_cases hb : broken R (s.next x) = 0
      · rw [if_pos hb, if_pos (h2.2 hb)]
      · rw [if_neg hb, if_neg (fun e => hb (h2.1 e))]
    simp only [rightL, flatMap_steps]
    rw [key 0 (.inl rfl), key 1 (.inr rfl)]

/-- A rest for the first hours alone. -/
def firstB (set n : Int) : Int := ((set.toNat &&& (2 ^ n.toNat - 1) : Nat) : Int)
def firstR (R : Rest) (n : Int) : Rest := ⟨n, { R.r0 with out := firstB R.r0.out n }, { R.r1 with out := firstB R.r1.out n }⟩

theorem hasBit_first {set n k : Int} (h0 : 0 ≤ set) (hk : 0 ≤ k) (hn : k < n) : hasBit (firstB set n) k = hasBit set k := by
  obtain ⟨m, rfl⟩ : ∃ m : Nat, set = m := ⟨set.toNat, by omega⟩
  obtain ⟨j, rfl⟩ : ∃ j : Nat, k = j := ⟨k.toNat, by omega⟩
  have : j < n.toNat := by omega
  rw [firstB, hasBit_nat, hasBit_nat, Int.toNat_natCast, Nat.testBit_and, Nat.testBit_two_pow_sub_one]
  simp [this]

theorem firstR_valid {R : Rest} {n : Int} (hv : R.valid = true) (h0 : 0 ≤ n) (h1 : n ≤ R.hours) : (firstR R n).valid = true := by
  have hh := Rest.valid_hours hv
  simp only [Rest.valid, Bool.and_eq_true] at hv ⊢
  obtain ⟨_, g2, g3⟩ := hv
  have key : ∀ r : Rider, riderOk r R.hours = true → riderOk { r with out := firstB r.out n } n = true := by
    intro r hr
    simp only [riderOk, Bool.and_eq_true] at hr ⊢
    refine ⟨?_, hr.2⟩
    have e : ((2 : Int) ^ n.toNat) = ((2 ^ n.toNat : Nat) : Int) := by simp
    have hp : 0 < 2 ^ n.toNat := Nat.pow_pos (by decide)
    have h2 : r.out.toNat &&& (2 ^ n.toNat - 1) ≤ 2 ^ n.toNat - 1 := Nat.and_le_right
    have h3 : ((r.out.toNat &&& (2 ^ n.toNat - 1) : Nat) : Int) ≤ ((2 ^ n.toNat - 1 : Nat) : Int) := Int.ofNat_le.2 h2
    have h4 : ((2 ^ n.toNat - 1 : Nat) : Int) = (2 : Int) ^ n.toNat - 1 := by
      rw [e]
      generalize 2 ^ n.toNat = q at hp
      omega
    rw [h4] at h3
    show (decide (0 ≤ ((r.out.toNat &&& (2 ^ n.toNat - 1) : Nat) : Int)) && decide (((r.out.toNat &&& (2 ^ n.toNat - 1) : Nat) : Int) ≤ 2 ^ n.toNat - 1)) = true
    rw [decide_eq_true (Int.natCast_nonneg _), decide_eq_true h3]
    rfl
  refine ⟨?_, key _ g2, key _ g3⟩
  show inB n 0 16 = true
  simp only [inB, Bool.and_eq_true, decide_eq_true_eq]
  exact ⟨h0, by omega⟩

theorem plans_first {R : Rest} (hv : R.valid = true) {n : Int} (h0 : 0 ≤ n) : plansL (firstR R n) = rightL R n.toNat St.begin := by
  have ho := Rest.valid_ok hv
  have hb : ∀ r : Rider, 0 ≤ r.out → ∀ k, 0 ≤ k → k < n → hasBit (firstB r.out n) k = hasBit r.out k := fun r hr k hk hn => hasBit_first hr hk hn
  refine rightL_congr n ?_ n.toNat St.begin (by simp [St.begin]) (by simp [St.begin]; omega)
  intro s hr h1 h2
  have e : decide (broken (firstR R n) s = 0) = decide (broken R s = 0) := by
    rw [broken_zero, broken_zero]
    rcases hr with hr | hr
    · simp only [firstR, Rest.rider, hr, if_true]
      rw [hb R.r0 ho.1.out0 _ (by omega) (by omega)]
    · simp only [firstR, Rest.rider, hr, Int.reduceEq, if_false]
      rw [hb R.r1 ho.2.out0 _ (by omega) (by omega)]
  simpa using e

/-- The beginning of a right plan is right. -/
theorem right_prefix {R : Rest} : ∀ (p : List Int) (s : St) (k : Nat), goodB R s p = true → goodB R s (p.take k) = true
  | [], s, k, _ => by simp [goodB]
  | x :: l, s, 0, _ => by simp [goodB]
  | x :: l, s, k + 1, h => by
    simp only [goodB, Bool.and_eq_true] at h
    simp only [List.take_succ_cons, goodB, Bool.and_eq_true]
    exact ⟨h.1, h.2.1, right_prefix l (s.next x) k h.2.2⟩

theorem right_less {R : Rest} {n m : Nat} (h : m ≤ n) (hne : rightL R n St.begin ≠ []) : rightL R m St.begin ≠ [] := by
  obtain ⟨p, hp⟩ := List.exists_mem_of_ne_nil _ hne
  obtain ⟨h1, h2⟩ := mem_rightL.1 hp
  have : p.take m ∈ rightL R m St.begin := mem_rightL.2 ⟨by simp [h1, h], right_prefix p _ m h2⟩
  exact List.ne_nil_of_mem this

theorem canB_less {R : Rest} {a b : Int} (h : a ≤ b) (hb : b ≤ 16) (hc : canB R b = true) : canB R a = true := by
  rw [canB_eq (by omega)] at hc ⊢
  simp only [decide_eq_true_eq] at hc ⊢
  exact right_less (by omega) hc

theorem canB_zero (R : Rest) : canB R 0 = true := rfl

/-- The last number that suits: it does, and the next one does not. -/
theorem lastOf_spec (p : Int → Bool) : ∀ (f : Nat) (n : Int), n ≤ lastOf p f n ∧ lastOf p f n ≤ n + f ∧ (p n = true → p (lastOf p f n) = true) ∧ (lastOf p f n < n + f → p (lastOf p f n + 1) = false)
  | 0, n => by simp [lastOf]
  | f + 1, n => by
    unfold lastOf
    cases hp : p (n + 1)
    · simp [hp]; omega
    · obtain ⟨h1, h2, h3, h4⟩ := lastOf_spec p f (n + 1)
      simp only [if_true]
      refine ⟨by omega, by omega, fun _ => h3 hp, fun h => h4 (by omega)⟩

theorem until_spec {R : Rest} (hv : R.valid = true) : 0 ≤ untilOf R ∧ untilOf R ≤ R.hours ∧ canB R (untilOf R) = true ∧ (untilOf R < R.hours → canB R (untilOf R + 1) = false) ∧ (canB R R.hours = true ↔ untilOf R = R.hours) := by
  have hh := Rest.valid_hours hv
  obtain ⟨h1, h2, h3, h4⟩ := lastOf_spec (canB R) R.hours.toNat 0
  have h5 : canB R (untilOf R) = true := h3 (canB_zero R)
  have h6 : untilOf R < R.hours → canB R (untilOf R + 1) = false := fun h => h4 (by show untilOf R < _; omega)
  have h7 : untilOf R ≤ R.hours := by show lastOf _ _ _ ≤ _; omega
  refine ⟨h1, h7, h5, h6, ?_, fun e => by rw [← e]; exact h5⟩
  intro hc
  rcases Int.lt_or_le (untilOf R) R.hours with hlt | hle
  · have := canB_less (a := untilOf R + 1) (by omega) hh.2 hc
    rw [h6 hlt] at this; cases this
  · omega

theorem count_pos {R : Rest} (hv : R.valid = true) : countR R = (((plansL R).length : Int), 0) ∧ (canB R R.hours = true ↔ 0 < ((plansL R).length : Int)) := by
  refine ⟨countR_eq hv, ?_⟩
  rw [canB_eq (valid_16 hv)]
  simp only [decide_eq_true_eq]
  constructor
  · intro h; exact Int.ofNat_lt.2 (List.length_pos_iff.2 h)
  · intro h; exact List.length_pos_iff.1 (Int.ofNat_lt.1 h)

/-- How many plans are right, of a rest in which an hour is freed. -/
theorem count_clear {R : Rest} (hv : R.valid = true) {i h : Int} (h0 : 0 ≤ h) : ∃ c : Int, countR (R.clear i h) = (c, 0) ∧ 0 ≤ c ∧ decide (0 < c) = canB (R.clear i h) R.hours := by
  obtain ⟨h1, h2⟩ := Rest.clear_valid (i := i) hv h0
  obtain ⟨h3, h4⟩ := count_pos h1
  refine ⟨_, h3, by omega, ?_⟩
  rw [h2] at h4
  rw [Bool.eq_iff_iff]
  simp only [decide_eq_true_eq]
  exact h4.symm

theorem count_first {R : Rest} (hv : R.valid = true) {n : Int} (h0 : 0 ≤ n) (h1 : n ≤ R.hours) : ∃ c : Int, countR (firstR R n) = (c, 0) ∧ 0 ≤ c ∧ decide (0 < c) = canB R n := by
  have hh := Rest.valid_hours hv
  obtain ⟨h3, _⟩ := count_pos (firstR_valid hv h0 h1)
  refine ⟨_, h3, by omega, ?_⟩
  rw [plans_first hv h0, canB_eq (by omega)]
  rw [Bool.eq_iff_iff]
  simp only [decide_eq_true_eq]
  constructor
  · intro h; exact List.length_pos_iff.1 (by omega)
  · intro h; have := List.length_pos_iff.2 h; omega

theorem freeIn_some {R : Rest} {i : Int} : ∀ (n : Nat) (h k : Int), freeIn R i n h = some k → frees R i k = true ∧ h ≤ k ∧ k < h + n ∧ ∀ j, h ≤ j → j < k → frees R i j = false
  | 0, h, k, he => by cases he
  | n + 1, h, k, he => by
    unfold freeIn at he
    cases hf : frees R i h
    · rw [hf] at he
      obtain ⟨h1, h2, h3, h4⟩ := freeIn_some n (h + 1) k (by simpa using he)
      refine ⟨h1, by omega, by omega, fun j hj hj2 => ?_⟩
      by_cases e : j = h
      · rw [e]; exact hf
      · exact h4 j (by omega) hj2
    · rw [hf] at he
      obtain rfl : h = k := by simpa using he
      exact ⟨hf, by omega, by omega, fun j hj hj2 => by omega⟩

theorem freeIn_none {R : Rest} {i : Int} : ∀ (n : Nat) (h : Int), freeIn R i n h = none → ∀ j, h ≤ j → j < h + n → frees R i j = false
  | 0, h, _, j, hj, hj2 => by omega
  | n + 1, h, he, j, hj, hj2 => by
    unfold freeIn at he
    cases hf : frees R i h
    · rw [hf] at he
      by_cases e : j = h
      · rw [e]; exact hf
      · exact freeIn_none n (h + 1) (by simpa using he) j (by omega) (by omega)
    · rw [hf] at he; cases he

/-- Which hour would have to be free: nothing, or one of either. -/
theorem freeOf_cases {R : Rest} (hh : 0 ≤ R.hours) : (freeOf R = (0, 0, 4) ∧ (∀ j, 0 ≤ j → j < R.hours → frees R 0 j = false) ∧ (∀ j, 0 ≤ j → j < R.hours → frees R 1 j = false)) ∨
    (∃ h, freeOf R = (0, h, 0) ∧ 0 ≤ h ∧ h < R.hours ∧ frees R 0 h = true ∧ (∀ j, 0 ≤ j → j < h → frees R 0 j = false)) ∨
    (∃ h, freeOf R = (1, h, 0) ∧ 0 ≤ h ∧ h < R.hours ∧ (∀ j, 0 ≤ j → j < R.hours → frees R 0 j = false) ∧ frees R 1 h = true ∧ (∀ j, 0 ≤ j → j < h → frees R 1 j = false)) := by
  unfold freeOf
  cases h0 : freeIn R 0 R.hours.toNat 0 with
  | some h =>
    obtain ⟨h1, h2, h3, h4⟩ := freeIn_some _ _ _ h0
    exact .inr (.inl ⟨h, rfl, h2, by omega, h1, h4⟩)
  | none =>
    have n0 := freeIn_none _ _ h0
    cases h1 : freeIn R 1 R.hours.toNat 0 with
    | some h =>
      obtain ⟨g1, h2, h3, h4⟩ := freeIn_some _ _ _ h1
      exact .inr (.inr ⟨h, rfl, h2, by omega, fun j hj hj2 => n0 j hj (by omega), g1, h4⟩)
    | none =>
      have n1 := freeIn_none _ _ h1
      exact .inl ⟨rfl, fun j hj hj2 => n0 j hj (by omega), fun j hj hj2 => n1 j hj (by omega)⟩

end Go.Proofs.Ytkgdejhooghknaa
