/- The plain mathematics of layer 6: the hours in which each has to ride. -/
import Derived.Test.YtkgdejhooghknaaP1
namespace Go.Proofs.Ytkgdejhooghknaa
open Go.RowKit Go.Lap

/-- The hours of a plan in which a rider rides. -/
def maskN (r : Int) : Nat → List Int → Nat
  | _, [] => 0
  | k, x :: l => if x = r then maskN r (k + 1) l ||| 2 ^ k else maskN r (k + 1) l

theorem maskN_lt (r : Int) : ∀ (p : List Int) (k : Nat), k + p.length ≤ 16 → maskN r k p < 65536
  | [], _, _ => by simp [maskN]
  | x :: l, k, h => by
    simp only [List.length_cons] at h
    have h1 := maskN_lt r l (k + 1) (by omega)
    unfold maskN
    split
    · have h2 : 2 ^ k < 2 ^ 16 := Nat.pow_lt_pow_right (by decide) (by omega)
      exact Nat.or_lt_two_pow (n := 16) h1 h2
    · exact h1

theorem maskN_bit (r : Int) : ∀ (p : List Int) (k j : Nat), (maskN r k p).testBit j = (decide (k ≤ j) && decide (p[j - k]? = some r))
  | [], k, j => by simp [maskN]
  | x :: l, k, j => by
    unfold maskN
    have ih := maskN_bit r l (k + 1) j
    by_cases hj : j = k
    · subst hj
      have h1 : (maskN r (j + 1) l).testBit j = false := by rw [ih]; have : ¬ j + 1 ≤ j := (by omega); simp [this]
      by_cases hx : x = r
      · simp [hx, Nat.testBit_or, h1]
      · simp [hx, h1]
    · by_cases hlt : j < k
      · have h1 : (maskN r (k + 1) l).testBit j = false := by rw [ih]; simp; omega
        have h2 : ¬ k = j := by omega
        have h3 : ¬ k ≤ j := by omega
        by_cases hx : x = r
        · simp [hx, Nat.testBit_or, h1, h2, h3]
        · simp [hx, h1, h3]
      · have h2 : ¬ k = j := by omega
        have h4 : j - k = (j - (k + 1)) + 1 := by omega
        have h5 : k + 1 ≤ j := by omega
        have h6 : k ≤ j := by omega
        have h7 : (maskN r (k + 1) l).testBit j = decide (l[j - (k + 1)]? = some r) := by rw [ih]; simp [h5]
        rw [h4]
        by_cases hx : x = r
        · simp [hx, Nat.testBit_or, h7, h2, h6]
        · simp [hx, h7, h6]

def SetsP (_ : Nat) (x : Int × Int) : Prop := ∃ a b : Nat, x = ((a : Int), (b : Int)) ∧ a < 65536 ∧ b < 65536

theorem wrap_pow {k : Int} (h0 : 0 ≤ k) (h1 : k ≤ 15) : wrap64 (2 ^ k.toNat) = ((2 ^ k.toNat : Nat) : Int) ∧ 2 ^ k.toNat < 65536 := by
  have h2 : 2 ^ k.toNat < 2 ^ 16 := Nat.pow_lt_pow_right (by decide) (by omega)
  have e : ((2 : Int) ^ k.toNat) = ((2 ^ k.toNat : Nat) : Int) := by simp
  refine ⟨?_, h2⟩
  rw [e, IntWalk.wrap64_in _ (by generalize 2 ^ k.toNat = q at *; omega)]

theorem or_dist (a b c : Nat) : (a &&& b) ||| c = (a ||| c) &&& (b ||| c) := by
  apply Nat.eq_of_testBit_eq
  intro i
  simp only [Nat.testBit_or, Nat.testBit_and]
  cases a.testBit i <;> cases b.testBit i <;> cases c.testBit i <;> rfl

theorem and_lt {a b : Nat} (h : a < 65536) : a &&& b < 65536 := Nat.lt_of_le_of_lt Nat.and_le_left h
theorem or_lt {a b : Nat} (h : a < 65536) (h2 : b < 65536) : a ||| b < 65536 := Nat.or_lt_two_pow (n := 16) h h2
theorem band_nat {a b : Nat} (h : a < 65536) (h2 : b < 65536) : bits .and .i64 (a : Int) (b : Int) = ((a &&& b : Nat) : Int) := (Go.Lap.bits_nat a b (by omega) (by omega)).1
theorem bor_nat {a b : Nat} (h : a < 65536) (h2 : b < 65536) : bits .or .i64 (a : Int) (b : Int) = ((a ||| b : Nat) : Int) := (Go.Lap.bits_nat a b (by omega) (by omega)).2.1

theorem sets_alg : setsG.Alg SetsP := by
  refine ⟨fun _ _ => ⟨0, 0, rfl, by omega, by omega⟩, ?_, ?_, ?_, ?_⟩
  · rintro n s nx x hs _ hh ⟨a, b, rfl, ha, hb⟩
    obtain ⟨e, hp⟩ := wrap_pow hs.hour0 (by omega)
    simp only [setsG, e]
    split
    · exact ⟨_, b, by rw [bor_nat ha hp], or_lt ha hp, hb⟩
    · exact ⟨a, _, by rw [bor_nat hb hp], ha, or_lt hb hp⟩
  · rintro n x y ⟨a, b, rfl, ha, hb⟩ ⟨c, d, rfl, hc, hd⟩
    exact ⟨a &&& c, b &&& d, by simp only [setsG]; rw [band_nat ha hc, band_nat hb hd], and_lt ha, and_lt hb⟩
  · rintro n x y z ⟨a, b, rfl, ha, hb⟩ ⟨c, d, rfl, hc, hd⟩ ⟨e, f, rfl, he, hf⟩
    simp only [setsG]
    rw [band_nat ha hc, band_nat hb hd, band_nat hc he, band_nat hd hf, band_nat (and_lt ha) he, band_nat (and_lt hb) hf, band_nat ha (and_lt hc), band_nat hb (and_lt hd), Nat.and_assoc, Nat.and_assoc]
  · rintro n s nx x y hs _ hh ⟨a, b, rfl, ha, hb⟩ ⟨c, d, rfl, hc, hd⟩
    obtain ⟨e, hp⟩ := wrap_pow hs.hour0 (by omega)
    simp only [setsG, e]
    split
    · simp only [band_nat ha hc, band_nat hb hd, bor_nat ha hp, bor_nat hc hp, bor_nat (and_lt ha) hp, band_nat (or_lt ha hp) (or_lt hc hp), or_dist]
    · simp only [band_nat ha hc, band_nat hb hd, bor_nat hb hp, bor_nat hd hp, bor_nat (and_lt hb) hp, band_nat (or_lt hb hp) (or_lt hd hp), or_dist]

theorem val_sets : ∀ (p : List Int) (s : St), 0 ≤ s.hour → s.hour + p.length ≤ 16 → (∀ x, x ∈ p → x = 0 ∨ x = 1) → val setsG s p = ((maskN 0 s.hour.toNat p : Int), (maskN 1 s.hour.toNat p : Int))
  | [], s, _, _, _ => by simp [val, setsG, maskN]
  | x :: l, s, h0, h1, hx => by
    simp only [List.length_cons] at h1
    have e2 : (s.next x).hour = s.hour + 1 := rfl
    have ih := val_sets l (s.next x) (by rw [e2]; omega) (by rw [e2]; omega) (fun y hy => hx y (by simp [hy]))
    obtain ⟨e, hp⟩ := wrap_pow h0 (by omega)
    have hn : (s.hour + 1).toNat = s.hour.toNat + 1 := by omega
    rw [e2, hn] at ih
    have l0 := maskN_lt 0 l (s.hour.toNat + 1) (by omega)
    have l1 := maskN_lt 1 l (s.hour.toNat + 1) (by omega)
    have e3 : (s.next x).rider = x := rfl
    show setsG.hour s (s.next x) (val setsG (s.next x) l) = _
    rw [ih]
    simp only [setsG, e3, e]
    rcases hx x (by simp) with rfl | rfl
    · simp only [if_true, bor_nat l0 hp, maskN, Int.reduceEq, if_false]
    · simp only [if_true, bor_nat l1 hp, maskN, Int.reduceEq, if_false]

/-- What all of some plans have in common. -/
def andAll (r : Int) : List (List Int) → Nat → Nat
  | [], a => a
  | p :: l, a => andAll r l (a &&& maskN r 0 p)

theorem andAll_bit (r : Int) : ∀ (l : List (List Int)) (a j : Nat), (andAll r l a).testBit j = (a.testBit j && l.all fun p => decide (p[j]? = some r))
  | [], a, j => by simp [andAll]
  | p :: l, a, j => by
    rw [andAll, andAll_bit r l, Nat.testBit_and, maskN_bit]
    simp [Bool.and_assoc]

theorem joinAll_sets : ∀ (l : List (List Int)) (a b : Nat), a < 65536 → b < 65536 → (∀ p, p ∈ l → p.length ≤ 16) →
    (l.map (fun p => ((maskN 0 0 p : Int), (maskN 1 0 p : Int)))).foldl setsG.join ((a : Int), (b : Int)) = ((andAll 0 l a : Int), (andAll 1 l b : Int))
  | [], a, b, _, _, _ => rfl
  | p :: l, a, b, ha, hb, h => by
    have hp := h p (by simp)
    have m0 := maskN_lt 0 p 0 (by omega)
    have m1 := maskN_lt 1 p 0 (by omega)
    simp only [List.map_cons, List.foldl_cons, andAll]
    rw [show setsG.join ((a : Int), (b : Int)) ((maskN 0 0 p : Int), (maskN 1 0 p : Int)) = (((a &&& maskN 0 0 p : Nat) : Int), ((b &&& maskN 1 0 p : Nat) : Int)) by simp only [setsG]; rw [band_nat ha m0, band_nat hb m1]]
    exact joinAll_sets l _ _ (and_lt ha) (and_lt hb) (fun q hq => h q (by simp [hq]))

/-- The hours in which a rider has to ride. -/
def mustN (r : Int) (R : Rest) : Nat :=
  match plansL R with
  | [] => 0
  | p :: l => andAll r l (maskN r 0 p)

theorem mustN_bit {r : Int} {R : Rest} (hne : plansL R ≠ []) (j : Nat) : (mustN r R).testBit j = (plansL R).all fun p => decide (p[j]? = some r) := by
  unfold mustN
  split
  · rename_i h; exact (hne h).elim
  · rename_i p l h
    rw [h, andAll_bit, maskN_bit]
    simp

theorem mustR_eq {R : Rest} (hv : R.valid = true) : mustR R = if plansL R = [] then (0, 0, 4) else ((mustN 0 R : Int), (mustN 1 R : Int), 0) := by
  have h16 := valid_16 hv
  simp only [mustR, hv, if_true]
  rw [found_all sets_alg R _ St.begin St.begin_ok (by simp [St.begin]; omega)]
  have hmap : (plansL R).map (val setsG St.begin) = (plansL R).map (fun p => ((maskN 0 0 p : Int), (maskN 1 0 p : Int))) := by
    apply List.map_congr_left
    intro p hp
    obtain ⟨h1, h2⟩ := mem_plans hp
    refine val_sets p St.begin (by simp [St.begin]) (by simp [St.begin]; omega) ?_
    intro x hx
    obtain ⟨k, hk, rfl⟩ := List.mem_iff_getElem.1 hx
    have := h2 k hk
    simpa [List.getElem?_eq_getElem hk] using this
  rw [hmap]
  unfold mustN
  cases hL : plansL R with
  | nil => rfl
  | cons p l =>
    have hlen : ∀ q, q ∈ plansL R → q.length ≤ 16 := fun q hq => by have := (mem_plans hq).1; omega
    rw [hL] at hlen
    have hp := hlen p (by simp)
    simp only [joinAll, List.map_cons]
    rw [joinAll_sets l _ _ (maskN_lt 0 p 0 (by omega)) (maskN_lt 1 p 0 (by omega)) (fun q hq => hlen q (by simp [hq]))]
    simp

theorem mustN_lt {r : Int} {R : Rest} (_hv : R.valid = true) : mustN r R < 2 ^ R.hours.toNat := by
  by_cases hne : plansL R = []
  · unfold mustN
    rw [hne]
    exact Nat.pow_pos (by decide)
  · apply Nat.lt_pow_two_of_testBit
    intro j hj
    rw [mustN_bit hne]
    cases hL : plansL R with
    | nil => exact (hne hL).elim
    | cons p l =>
      have := (mem_plans (R := R) (p := p) (by rw [hL]; simp)).1
      have : p[j]? = none := List.getElem?_eq_none (by omega)
      simp [this]

/-- No bits behind a set. -/
theorem andNot_zero {x y : Nat} (hx : x < 65536) (hy : y < 9223372036854775808) (h : ∀ j, x.testBit j = true → y.testBit j = true) : bits .andNot .i64 (x : Int) (y : Int) = 0 := by
  have ea : (BitVec.ofInt 64 (x : Int)).toNat = x := by rw [BitVec.toNat_ofInt]; omega
  have eb : (BitVec.ofInt 64 (y : Int)).toNat = y := by rw [BitVec.toNat_ofInt]; omega
  show IntKind.i64.wrap ((BitVec.ofInt 64 (x : Int) &&& ~~~ BitVec.ofInt 64 (y : Int)).toNat : Nat) = 0
  have : BitVec.ofInt 64 (x : Int) &&& ~~~ BitVec.ofInt 64 (y : Int) = 0#64 := by
    generalize BitVec.ofInt 64 (x : Int) = u at *
    generalize BitVec.ofInt 64 (y : Int) = v at *
    ext i hi
    simp only [BitVec.getElem_and, BitVec.getElem_not, BitVec.getElem_zero]
    have h1 : u[i] = x.testBit i := by rw [← ea]; rfl
    have h2 : v[i] = y.testBit i := by rw [← eb]; rfl
    rw [h1, h2]
    cases hb : x.testBit i
    · rfl
    · rw [h i hb]; rfl
  rw [this]; rfl

end Go.Proofs.Ytkgdejhooghknaa
