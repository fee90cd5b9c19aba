/- The law RelayTurned in plain mathematics. The law RelayTurned in plain mathematics: hand-overs, all later, an entry left free. -/
import Derived.Test.YtccgakdaiaigoaaPT
import Derived.Test.YtccgakdaiaigoaaPU
namespace Go.Proofs.Ytccgakdaiaigoaa

/-- The set of the numbers below n of which something is so. -/
def mkSet (p : Nat → Bool) : Nat → Nat
  | 0 => 0
  | n + 1 => if p n then mkSet p n ||| 2 ^ n else mkSet p n
theorem mkSet_bit (p : Nat → Bool) : ∀ (n j : Nat), (mkSet p n).testBit j = (decide (j < n) && p j)
  | 0, j => by simp [mkSet]
  | n + 1, j => by
    simp only [mkSet]
    have ih := mkSet_bit p n j
    by_cases hj : j = n
    · subst hj
      cases hp : p j with
      | true => simp [Nat.testBit_or]
      | false => rw [if_neg (by simp), ih]; simp
    · have h1 : decide (j < n + 1) = decide (j < n) := by
        by_cases h : j < n
        · simp [h, show j < n + 1 by omega]
        · simp [h, show ¬ j < n + 1 by omega]
      rw [h1]
      split
      · rw [Nat.testBit_or, ih, Nat.testBit_two_pow]
        simp [show ¬ n = j by omega]
      · exact ih
/-- The other judge's entries of a set. -/
def Rel.others (r : Rel) (S : Nat) : Nat := mkSet (fun k => S.testBit (other k)) (4 * r.n)
theorem others_bit (r : Rel) (S : Nat) {k : Nat} (hk : k < 4 * r.n) : (r.others S).testBit k = S.testBit (other k) := by
  rw [Rel.others, mkSet_bit, decide_eq_true hk, Bool.true_and]
theorem others_le (r : Rel) (S : Nat) : r.others S ≤ r.every :=
  Sub.le fun k hk => by
    rw [Rel.others, mkSet_bit, Bool.and_eq_true] at hk
    rw [Rel.every_bit]; exact hk.1
theorem perm_other : ((List.range 64).map other).Perm (List.range 64) := by decide +kernel
theorem others_pop {r : Rel} (hv : r.valid = true) {S : Nat} (hS : S ≤ r.every) : popc (r.others S) = popc S := by
  have h5 := (r.ok_of hv).2.2.1
  have hb : ∀ k, (r.others S).testBit k = S.testBit (other k) := fun k => by
    by_cases hk : k < 4 * r.n
    · exact others_bit r S hk
    · have h1 : (r.others S).testBit k = false := by rw [Rel.others, mkSet_bit, decide_eq_false hk, Bool.false_and]
      have h2 : ¬ other k < 4 * r.n := by unfold other; split <;> omega
      have h3 : S.testBit (other k) = false := by
        rw [← Bool.not_eq_true]
        intro h
        have := sub_every hS _ h
        rw [Rel.every_bit, decide_eq_false h2] at this
        cases this
      rw [h1, h3]
  rw [popc, popc]
  have e : (List.range 64).countP (fun i => (r.others S).testBit i) = ((List.range 64).map other).countP (fun i => S.testBit i) := by
    rw [List.countP_map]
    apply List.countP_congr
    intro k _
    simp [hb k]
  rw [e]
  exact perm_other.countP_eq _
theorem swap_can {r : Rel} (hv : r.valid = true) {A B : Nat} (h : ∀ k, k < 4 * r.n → A.testBit k = B.testBit (other k)) : r.swap.canB A = r.canB B := by
  rw [Bool.eq_iff_iff, Rel.canB_iff (Rel.swap_valid hv), Rel.canB_iff hv]
  exact exists_congr fun _ => swap_truth h
theorem swap_can_every {r : Rel} (hv : r.valid = true) : r.swap.canB r.swap.every = r.canB r.every :=
  swap_can hv fun k hk => by rw [r.swap_sim.every, Rel.every_bit, Rel.every_bit, decide_eq_true hk, decide_eq_true (other_lt hk)]
theorem others_can {r : Rel} (hv : r.valid = true) (S : Nat) : r.swap.canB (r.others S) = r.canB S :=
  swap_can hv fun _ hk => others_bit r S hk
theorem others_can2 {r : Rel} (hv : r.valid = true) (S : Nat) : r.canB (r.others S) = r.swap.canB S :=
  (swap_can hv fun k hk => by rw [others_bit r S (other_lt hk), other_other]).symm
/-- As many entries clash, if both judges change places. -/
theorem clash_turned {r : Rel} (hv : r.valid = true) (hc : r.canB r.every = false) : ∃ A B : Nat, clashOf r = ((A : Int), 0) ∧ clashOf r.swap = ((B : Int), 0) ∧ A ≤ r.every ∧ B ≤ r.every ∧ popc A = popc B := by
  have hv2 := Rel.swap_valid hv
  have hc2 : r.swap.canB r.swap.every = false := by rw [swap_can_every hv]; exact hc
  obtain ⟨A, hA, _, hAE, _, hAc, _, hAl⟩ := clash_law hv hc
  obtain ⟨B, hB, _, hBE, _, hBc, _, hBl⟩ := clash_law hv2 hc2
  rw [r.swap_sim.every] at hBE hBl
  refine ⟨A, B, hA, hB, hAE, hBE, ?_⟩
  have h1 := le_test (hBl (r.others A) (others_le r A) (by rw [others_can hv]; exact hAc))
  have h2 := le_test (hAl (r.others B) (others_le r B) (by rw [others_can2 hv]; exact hBc))
  rw [others_pop hv hAE] at h1
  rw [others_pop hv hBE] at h2
  omega
theorem every_sub_bit {r : Rel} {S : Nat} (hS : S ≤ r.every) {k : Nat} (hk : k < 4 * r.n) : (r.every - S).testBit k = !S.testBit k := by
  rw [← every_xor hS, Nat.testBit_xor, Rel.every_bit, decide_eq_true hk]; simp
/-- As many entries are wrong, if both judges change places. -/
theorem wrong_turned {r : Rel} (hv : r.valid = true) (hc : r.canB r.every = false) : ∃ A B : Nat, r.wrongOf = ((A : Int), 0) ∧ r.swap.wrongOf = ((B : Int), 0) ∧ A ≤ r.every ∧ B ≤ r.every ∧ popc A = popc B := by
  have hv2 := Rel.swap_valid hv
  have hc2 : r.swap.canB r.swap.every = false := by rw [swap_can_every hv]; exact hc
  obtain ⟨A, hA, _, hAE, hAc, _, _, hAl⟩ := wrong_law hv hc
  obtain ⟨B, hB, _, hBE, hBc, _, _, hBl⟩ := wrong_law hv2 hc2
  rw [r.swap_sim.every] at hBE hBl hBc
  refine ⟨A, B, hA, hB, hAE, hBE, ?_⟩
  have h1 := le_test (hBl (r.others A) (others_le r A) (by
    rw [swap_can hv (B := r.every - A) fun k hk => by rw [every_sub_bit (others_le r A) hk, every_sub_bit hAE (other_lt hk), others_bit r A hk]]
    exact hAc))
  have h2 := le_test (hAl (r.others B) (others_le r B) (by
    rw [← swap_can hv (A := r.every - B) fun k hk => by rw [every_sub_bit (others_le r B) (other_lt hk), every_sub_bit hBE hk, others_bit r B (other_lt hk), other_other]]
    exact hBc))
  rw [others_pop hv hAE] at h1
  rw [others_pop hv hBE] at h2
  omega
theorem IsSpan.same {r x : Rel} (h : ∀ s, Truth x x.every s ↔ Truth r r.every s) {f : (Nat → Int) → Int} {a b : Int} (hs : IsSpan r f a b) : IsSpan x f a b := by
  obtain ⟨s1, h1, e1⟩ := hs.lo
  obtain ⟨s2, h2, e2⟩ := hs.hi
  exact ⟨⟨s1, (h s1).2 h1, e1⟩, ⟨s2, (h s2).2 h2, e2⟩, fun s hs2 => hs.of s ((h s).1 hs2)⟩
/-- What is told of stints stays, if both judges change places. -/
theorem swap_told {r : Rel} (hv : r.valid = true) {i : Nat} (hi : i < r.n) : onOf r.swap (i : Int) = onOf r i ∧ offOf r.swap (i : Int) = offOf r i ∧ lengthOf r.swap (i : Int) = lengthOf r i := by
  have hv2 := Rel.swap_valid hv
  have hi2 : i < r.swap.n := by rw [r.swap_n]; exact hi
  have hT : ∀ s, Truth r.swap r.swap.every s ↔ Truth r r.every s := fun _ => swap_every
  cases hc : r.canB r.every with
  | false =>
    have hc2 : r.swap.canB r.swap.every = false := by rw [swap_can_every hv]; exact hc
    have h1 := panics_clash hv (isStint_of hi) hc
    have h2 := panics_clash hv2 (isStint_of hi2) hc2
    exact ⟨by rw [on_no h1, on_no h2], by rw [off_no h1, off_no h2], by rw [length_no h1, length_no h2]⟩
  | true =>
    have hc2 : r.swap.canB r.swap.every = true := by rw [swap_can_every hv]; exact hc
    obtain ⟨a, b, h1, h2⟩ := on_spec hv hc hi
    obtain ⟨a', b', h3, h4⟩ := on_spec hv2 hc2 hi2
    obtain ⟨c, d, g1, g2⟩ := off_spec hv hc hi
    obtain ⟨c', d', g3, g4⟩ := off_spec hv2 hc2 hi2
    obtain ⟨x, y, f1, f2⟩ := length_spec hv hc hi
    obtain ⟨x', y', f3, f4⟩ := length_spec hv2 hc2 hi2
    obtain ⟨rfl, rfl⟩ := (h2.same hT).eq h4
    obtain ⟨rfl, rfl⟩ := (g2.same hT).eq g4
    obtain ⟨rfl, rfl⟩ := (f2.same hT).eq f4
    exact ⟨by rw [h1, h3], by rw [g1, g3], by rw [f1, f3]⟩
theorem FreeT.same {r x : Rel} (hn : x.n = r.n) (h : ∀ s, Truth x x.every s ↔ Truth r r.every s) (m : Int) : FreeT x m ↔ FreeT r m := by
  unfold FreeT
  rw [hn]
  exact exists_congr fun s => and_congr_left fun _ => h s
theorem swap_gap {r : Rel} (hv : r.valid = true) : minuteGapOf r.swap 0 600 = minuteGapOf r 0 600 := by
  have hv2 := Rel.swap_valid hv
  have hr : rangeB 0 600 = true := by decide
  cases hc : r.canB r.every with
  | false =>
    have hc2 : r.swap.canB r.swap.every = false := by rw [swap_can_every hv]; exact hc
    have h1 : minuteGapOf r 0 600 = (0, 10) := minute_panics (panics_clash hv hr hc)
    have h2 : minuteGapOf r.swap 0 600 = (0, 10) := minute_panics (panics_clash hv2 hr hc2)
    rw [h1, h2]
  | true =>
    have hc2 : r.swap.canB r.swap.every = true := by rw [swap_can_every hv]; exact hc
    exact (gap_spec hv2 hc2 hr).eq (FreeT.same r.swap_n fun _ => swap_every) (gap_spec hv hc hr)
end Go.Proofs.Ytccgakdaiaigoaa

namespace Go.Proofs.Ytccgakdaiaigoaa

theorem isStint_no {r : Rel} {i : Nat} (hi : r.n ≤ i) : r.isStint (i : Int) = false := by
  rw [← Bool.not_eq_true]
  intro h
  simp only [Rel.isStint, Bool.and_eq_true, decide_eq_true_eq] at h
  omega
theorem next_stint (i : Nat) : (i : Int) + 1 = ((i + 1 : Nat) : Int) := by omega
/-- What is told of a hand-over where there is no stint more. -/
theorem handed_last {r : Rel} (hv : r.valid = true) {i : Nat} (hi : r.n ≤ i + 1) : handedOf r (i : Int) = (0, 2) :=
  handed_no (panics_range hv (by rw [next_stint, isStint_no hi, Bool.and_false]))
theorem handed_clash {r : Rel} (hv : r.valid = true) (hc : r.canB r.every = false) {i : Nat} (hi : i + 1 < r.n) : handedOf r (i : Int) = (0, 10) :=
  handed_no (panics_clash hv (by rw [next_stint, isStint_of (show i < r.n by omega), isStint_of hi]; rfl) hc)
/-- Two that have truths of the same order are handed over alike. -/
theorem handed_same {r x : Rel} (hv : r.valid = true) (hv2 : x.valid = true) (hn : x.n = r.n) (hc : x.canB x.every = r.canB r.every) {i : Nat}
    (h1 : ∀ s, Truth r r.every s → ∃ t, Truth x x.every t ∧ t (2 * i + 2) - t (2 * i + 1) = s (2 * i + 2) - s (2 * i + 1)) (h2 : ∀ t, Truth x x.every t → ∃ s, Truth r r.every s ∧ t (2 * i + 2) - t (2 * i + 1) = s (2 * i + 2) - s (2 * i + 1)) : handedOf x (i : Int) = handedOf r (i : Int) := by
  by_cases hi : i + 1 < r.n
  · cases hcr : r.canB r.every with
    | false => rw [handed_clash hv hcr hi, handed_clash hv2 (by rw [hc]; exact hcr) (by rw [hn]; exact hi)]
    | true =>
      obtain ⟨v, e1, q1, q2, q3⟩ := handed_spec hv hcr hi
      obtain ⟨u, e2, p1, p2, p3⟩ := handed_spec hv2 (by rw [hc]; exact hcr) (i := i) (by rw [hn]; exact hi)
      have ha : u = 2 ↔ v = 2 := by
        rw [p2, q2]
        constructor
        · intro h s hs; obtain ⟨t, ht, e⟩ := h1 s hs; have := h t ht; omega
        · intro h t ht; obtain ⟨s, hs, e⟩ := h2 t ht; have := h s hs; omega
      have hb : u = 0 ↔ v = 0 := by
        rw [p3, q3]
        constructor
        · intro h s hs; obtain ⟨t, ht, e⟩ := h1 s hs; have := h t ht; omega
        · intro h t ht; obtain ⟨s, hs, e⟩ := h2 t ht; have := h s hs; omega
      have : u = v := by omega
      rw [e1, e2, this]
  · rw [handed_last hv (by omega), handed_last hv2 (by rw [hn]; omega)]
theorem swap_handed {r : Rel} (hv : r.valid = true) (i : Nat) : handedOf r.swap (i : Int) = handedOf r (i : Int) :=
  handed_same hv (Rel.swap_valid hv) r.swap_n (swap_can_every hv) (fun s hs => ⟨s, swap_every.2 hs, rfl⟩) (fun s hs => ⟨s, swap_every.1 hs, rfl⟩)
theorem later_back {r : Rel} (hv : r.valid = true) {d : Int} (hd : 0 ≤ d) (hf : r.fits d) {t : Nat → Int} (ht : Truth (r.later d) (r.later d).every t) : Truth r r.every (fun k => t k - d) := by
  refine (later_truth hv hd hf).1 ?_
  have : (fun k => t k - d + d) = t := by funext k; omega
  rw [this]; exact ht
theorem later_can {r : Rel} (hv : r.valid = true) {d : Int} (hd : 0 ≤ d) (hf : r.fits d) : (r.later d).canB (r.later d).every = r.canB r.every := by
  rw [Bool.eq_iff_iff, Rel.canB_iff (Rel.later_valid hv hd hf), Rel.canB_iff hv]
  exact ⟨fun ⟨t, ht⟩ => ⟨_, later_back hv hd hf ht⟩, fun ⟨s, hs⟩ => ⟨_, (later_truth hv hd hf).2 hs⟩⟩
theorem later_handed {r : Rel} (hv : r.valid = true) {d : Int} (hd : 0 ≤ d) (hf : r.fits d) (i : Nat) : handedOf (r.later d) (i : Int) = handedOf r (i : Int) :=
  handed_same hv (Rel.later_valid hv hd hf) (r.later_n d) (later_can hv hd hf) (fun s hs => ⟨_, (later_truth hv hd hf).2 hs, by omega⟩) (fun t ht => ⟨_, later_back hv hd hf ht, by omega⟩)
theorem IsSpan.later {r : Rel} (hv : r.valid = true) {d c : Int} (hd : 0 ≤ d) (hf : r.fits d) {f : (Nat → Int) → Int} (hF : ∀ s : Nat → Int, f (fun k => s k + d) = f s + c) {a b : Int} (h : IsSpan r f a b) : IsSpan (r.later d) f (a + c) (b + c) := by
  obtain ⟨s1, h1, e1⟩ := h.lo
  obtain ⟨s2, h2, e2⟩ := h.hi
  refine ⟨⟨_, (later_truth hv hd hf).2 h1, by rw [hF, e1]⟩, ⟨_, (later_truth hv hd hf).2 h2, by rw [hF, e2]⟩, fun t ht => ?_⟩
  have h3 := h.of _ (later_back hv hd hf ht)
  have h4 := hF (fun k => t k - d)
  have h5 : (fun k => t k - d + d) = t := by funext k; omega
  rw [h5] at h4
  omega
/-- What is told of stints, if all is later. -/
theorem later_told {r : Rel} (hv : r.valid = true) {d : Int} (hd : 0 ≤ d) (hf : r.fits d) {i : Nat} (hi : i < r.n) :
    (r.canB r.every = true → ∃ a b c e x y, onOf r (i : Int) = ((a, b), 0) ∧ onOf (r.later d) (i : Int) = ((a + d, b + d), 0) ∧ offOf r (i : Int) = ((c, e), 0) ∧ offOf (r.later d) (i : Int) = ((c + d, e + d), 0) ∧ lengthOf r (i : Int) = ((x, y), 0) ∧ lengthOf (r.later d) (i : Int) = ((x, y), 0)) ∧
    (r.canB r.every = false → onOf r (i : Int) = ((0, 0), 10) ∧ onOf (r.later d) (i : Int) = ((0, 0), 10) ∧ offOf r (i : Int) = ((0, 0), 10) ∧ offOf (r.later d) (i : Int) = ((0, 0), 10) ∧ lengthOf r (i : Int) = ((0, 0), 10) ∧ lengthOf (r.later d) (i : Int) = ((0, 0), 10)) := by
  have hv2 := Rel.later_valid hv hd hf
  have hi2 : i < (r.later d).n := by rw [r.later_n]; exact hi
  refine ⟨fun hc => ?_, fun hc => ?_⟩
  · have hc2 : (r.later d).canB (r.later d).every = true := by rw [later_can hv hd hf]; exact hc
    obtain ⟨a, b, h1, h2⟩ := on_spec hv hc hi
    obtain ⟨a', b', h3, h4⟩ := on_spec hv2 hc2 hi2
    obtain ⟨c, e, g1, g2⟩ := off_spec hv hc hi
    obtain ⟨c', e', g3, g4⟩ := off_spec hv2 hc2 hi2
    obtain ⟨x, y, f1, f2⟩ := length_spec hv hc hi
    obtain ⟨x', y', f3, f4⟩ := length_spec hv2 hc2 hi2
    obtain ⟨rfl, rfl⟩ := (h2.later hv hd hf (c := d) (fun s => rfl)).eq h4
    obtain ⟨rfl, rfl⟩ := (g2.later hv hd hf (c := d) (fun s => rfl)).eq g4
    obtain ⟨u1, u2⟩ := (f2.later hv hd hf (c := 0) (fun s => by show s (2 * i + 1) + d - (s (2 * i) + d) = s (2 * i + 1) - s (2 * i) + 0; omega)).eq f4
    rw [Int.add_zero] at u1 u2
    subst u1 u2
    exact ⟨a, b, c, e, x, y, h1, h3, g1, g3, f1, f3⟩
  · have hc2 : (r.later d).canB (r.later d).every = false := by rw [later_can hv hd hf]; exact hc
    have h1 := panics_clash hv (isStint_of hi) hc
    have h2 := panics_clash hv2 (isStint_of hi2) hc2
    exact ⟨on_no h1, on_no h2, off_no h1, off_no h2, length_no h1, length_no h2⟩
theorem wide_of {r : Rel} (S : Nat) {s : Nat → Int} (h : Truth r r.every s) : Truth (r.wide S) (r.wide S).every s := by
  obtain ⟨h1, h2⟩ := truth_base.1 h
  refine truth_base.2 ⟨(r.wide_sim S).base h1, said_every.2 fun k hk => ?_⟩
  rw [(r.wide_sim S).n] at hk
  rw [r.wide_entry S hk]
  split
  · exact h1.range (by simp only [timeOf]; omega)
  · exact said_every.1 h2 k hk
/-- With an entry less nothing is told more exactly. -/
theorem wide_told {r : Rel} (hv : r.valid = true) (S : Nat) (hc : r.canB r.every = true) {i : Nat} (hi : i < r.n) : ∃ a b c e x y a' b' c' e' x' y', onOf r (i : Int) = ((a, b), 0) ∧ onOf (r.wide S) (i : Int) = ((a', b'), 0) ∧ offOf r (i : Int) = ((c, e), 0) ∧ offOf (r.wide S) (i : Int) = ((c', e'), 0) ∧ lengthOf r (i : Int) = ((x, y), 0) ∧ lengthOf (r.wide S) (i : Int) = ((x', y'), 0) ∧
    a' ≤ a ∧ b ≤ b' ∧ c' ≤ c ∧ e ≤ e' ∧ x' ≤ x ∧ y ≤ y' := by
  have hv2 := Rel.wide_valid hv S
  obtain ⟨s, hs⟩ := can_truth hv hc
  have hc2 : (r.wide S).canB (r.wide S).every = true := (Rel.canB_iff hv2).2 ⟨s, wide_of S hs⟩
  have hi2 : i < (r.wide S).n := by rw [(r.wide_sim S).n]; exact hi
  obtain ⟨a, b, h1, h2⟩ := on_spec hv hc hi
  obtain ⟨a', b', h3, h4⟩ := on_spec hv2 hc2 hi2
  obtain ⟨c, e, g1, g2⟩ := off_spec hv hc hi
  obtain ⟨c', e', g3, g4⟩ := off_spec hv2 hc2 hi2
  obtain ⟨x, y, f1, f2⟩ := length_spec hv hc hi
  obtain ⟨x', y', f3, f4⟩ := length_spec hv2 hc2 hi2
  have key : ∀ {f : (Nat → Int) → Int} {p q p' q' : Int}, IsSpan r f p q → IsSpan (r.wide S) f p' q' → p' ≤ p ∧ q ≤ q' := by
    intro f p q p' q' u v
    obtain ⟨s1, z1, z2⟩ := u.lo
    obtain ⟨s2, z3, z4⟩ := u.hi
    have := v.of s1 (wide_of S z1)
    have := v.of s2 (wide_of S z3)
    omega
  have k1 := key h2 h4
  have k2 := key g2 g4
  have k3 := key f2 f4
  exact ⟨a, b, c, e, x, y, a', b', c', e', x', y', h1, h3, g1, g3, f1, f3, k1.1, k1.2, k2.1, k2.2, k3.1, k3.2⟩
/-- With an entry less a hand-over is told the same, or less exactly. -/
theorem wide_handed {r : Rel} (hv : r.valid = true) (S : Nat) (hc : r.canB r.every = true) {i : Nat} (hi : i + 1 < r.n) : ∃ v u, handedOf r (i : Int) = (v, 0) ∧ handedOf (r.wide S) (i : Int) = (u, 0) ∧ (u = v ∨ u = 1) := by
  have hv2 := Rel.wide_valid hv S
  obtain ⟨s, hs⟩ := can_truth hv hc
  have hc2 : (r.wide S).canB (r.wide S).every = true := (Rel.canB_iff hv2).2 ⟨s, wide_of S hs⟩
  obtain ⟨v, e1, q1, q2, q3⟩ := handed_spec hv hc hi
  obtain ⟨u, e2, p1, p2, p3⟩ := handed_spec hv2 hc2 (i := i) (by rw [(r.wide_sim S).n]; exact hi)
  refine ⟨v, u, e1, e2, ?_⟩
  have ha : u = 2 → v = 2 := fun h => q2.2 fun s hs => p2.1 h s (wide_of S hs)
  have hb : u = 0 → v = 0 := fun h => q3.2 fun s hs => p3.1 h s (wide_of S hs)
  omega
end Go.Proofs.Ytccgakdaiaigoaa
