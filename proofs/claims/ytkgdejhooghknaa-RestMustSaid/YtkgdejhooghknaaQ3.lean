/- 'RestMust' returns true. -/
import Derived.Test.YtkgdejhooghknaaQ2
namespace Go.Proofs.Ytkgdejhooghknaa
open Go.RowKit Go.Lap Go.Shelf

set_option maxRecDepth 100000 in
set_option maxHeartbeats 4000000 in
theorem restMust_idle (R : Rest) (k : Int) (hv : R.valid = false ∨ R.hours = 0) (w : World) : Calls Try.prog 9 #[restV R, .int .u8 k] w fun e w' => e = .returned (.bool true) ∧ Below w.heap.size w w' := by
  have c32 := hid (fun w => refRest_any R w)
  have c14 := hid awake_any
  have hX := hid (show (w.alloc (.cells #[.int .i64 R.hours, .int .i64 R.r0.out, .int .i64 R.r0.total, .int .i64 R.r0.run, .int .i64 R.r0.off, .int .i64 R.r1.out, .int .i64 R.r1.total, .int .i64 R.r1.run, .int .i64 R.r1.off] 26)).heap[w.heap.size]? = some (.cells #[.int .i64 R.hours, .int .i64 R.r0.out, .int .i64 R.r0.total, .int .i64 R.r0.run, .int .i64 R.r0.off, .int .i64 R.r1.out, .int .i64 R.r1.total, .int .i64 R.r1.run, .int .i64 R.r1.off] 26 (0, 0)) from alloc_at rfl)
  have hbw : Below w.heap.size w (w.alloc (.cells #[.int .i64 R.hours, .int .i64 R.r0.out, .int .i64 R.r0.total, .int .i64 R.r0.run, .int .i64 R.r0.off, .int .i64 R.r1.out, .int .i64 R.r1.total, .int .i64 R.r1.run, .int .i64 R.r1.off] 26)) := below_alloc (Below.refl _ _) _
  by_cases hv2 : R.valid = false
  · have hv' := hid hv2
    clear hv hv2
    go_enter Try.func9, Try.ntmps9
    go_wp2_with (first | (go_at_call 32; with_reducible refine (c32.out _).mono ?_; rw [hv'.out]; rintro e w1 ⟨rfl, hb1⟩; have hbw : Below w.heap.size w _ := below_via hb1 hbw; have hX := hid ((hb1.block _ (cells_of hX.out).1).trans hX.out); obtain ⟨lx, cx⟩ := cells_of hX.out) | (go_at_call 14; with_reducible refine (c14.out _).mono ?_; rintro e w1 ⟨rfl, hb1⟩; have hbw : Below w.heap.size w _ := below_via hb1 hbw; have hX := hid ((hb1.block _ (cells_of hX.out).1).trans hX.out); obtain ⟨lx, cx⟩ := cells_of hX.out))
    go_ret
    exact ⟨rfl, hbw⟩
  · have hz : R.hours = 0 := by rcases hv with h | h; exact (hv2 h).elim; exact h
    have hv' := hid (show R.valid = true by simpa using hv2)
    have hz2 : (R.hours == 0) = true := by simpa using hz
    have hz' := hid hz
    clear hv hv2 hz
    go_enter Try.func9, Try.ntmps9
    go_wp2_with (first | (go_at_call 32; with_reducible refine (c32.out _).mono ?_; rw [hv'.out]; rintro e w1 ⟨rfl, hb1⟩; have hbw : Below w.heap.size w _ := below_via hb1 hbw; have hX := hid ((hb1.block _ (cells_of hX.out).1).trans hX.out); obtain ⟨lx, cx⟩ := cells_of hX.out) | (go_at_call 14; with_reducible refine (c14.out _).mono ?_; rintro e w1 ⟨rfl, hb1⟩; have hbw : Below w.heap.size w _ := below_via hb1 hbw; have hX := hid ((hb1.block _ (cells_of hX.out).1).trans hX.out); obtain ⟨lx, cx⟩ := cells_of hX.out))
    go_ret
    exact ⟨rfl, hbw⟩

set_option maxRecDepth 100000 in
set_option maxHeartbeats 4000000 in
theorem restMust_none (R : Rest) (k : Int) (hv : R.valid = true) (hh : 0 < R.hours) (hm : mustR R = (0, 0, 4)) (hc : countR R = (0, 0)) (w : World) :
    Calls Try.prog 9 #[restV R, .int .u8 k] w fun e w' => e = .returned (.bool true) ∧ Below w.heap.size w w' := by
  have hne : (R.hours == 0) = false := by simp; omega
  have c32 := hid (fun w => refRest_any R w)
  have c28 := hid (fun w => Must_any R w)
  have c17 := hid (fun w => Count_any R w)
  have c14 := hid awake_any
  have hv' := hid hv
  have hm' := hid hm
  have hc' := hid hc
  clear hv hm hc
  have hX := hid (show (w.alloc (.cells #[.int .i64 R.hours, .int .i64 R.r0.out, .int .i64 R.r0.total, .int .i64 R.r0.run, .int .i64 R.r0.off, .int .i64 R.r1.out, .int .i64 R.r1.total, .int .i64 R.r1.run, .int .i64 R.r1.off] 26)).heap[w.heap.size]? = some (.cells #[.int .i64 R.hours, .int .i64 R.r0.out, .int .i64 R.r0.total, .int .i64 R.r0.run, .int .i64 R.r0.off, .int .i64 R.r1.out, .int .i64 R.r1.total, .int .i64 R.r1.run, .int .i64 R.r1.off] 26 (0, 0)) from alloc_at rfl)
  have hbw : Below w.heap.size w (w.alloc (.cells #[.int .i64 R.hours, .int .i64 R.r0.out, .int .i64 R.r0.total, .int .i64 R.r0.run, .int .i64 R.r0.off, .int .i64 R.r1.out, .int .i64 R.r1.total, .int .i64 R.r1.run, .int .i64 R.r1.off] 26)) := below_alloc (Below.refl _ _) _
  go_enter Try.func9, Try.ntmps9
  go_wp2_with (first | (go_at_call 32; with_reducible refine (c32.out _).mono ?_; rw [hv'.out]; rintro e w1 ⟨rfl, hb1⟩; have hbw : Below w.heap.size w _ := below_via hb1 hbw; have hX := hid ((hb1.block _ (cells_of hX.out).1).trans hX.out); obtain ⟨lx, cx⟩ := cells_of hX.out) | (go_at_call 28; with_reducible refine (c28.out _).mono ?_; rw [hm'.out]; rintro e w1 ⟨rfl, hb1⟩; have hbw : Below w.heap.size w _ := below_via hb1 hbw; have hX := hid ((hb1.block _ (cells_of hX.out).1).trans hX.out); obtain ⟨lx, cx⟩ := cells_of hX.out) | (go_at_call 17; with_reducible refine (c17.out _).mono ?_; rw [hc'.out]; rintro e w1 ⟨rfl, hb1⟩; have hbw : Below w.heap.size w _ := below_via hb1 hbw; have hX := hid ((hb1.block _ (cells_of hX.out).1).trans hX.out); obtain ⟨lx, cx⟩ := cells_of hX.out) | (go_at_call 14; with_reducible refine (c14.out _).mono ?_; rintro e w1 ⟨rfl, hb1⟩; have hbw : Below w.heap.size w _ := below_via hb1 hbw; have hX := hid ((hb1.block _ (cells_of hX.out).1).trans hX.out); obtain ⟨lx, cx⟩ := cells_of hX.out))
  go_ret
  exact ⟨rfl, hbw⟩

theorem must_facts {R : Rest} (hv : R.valid = true) (hh : 0 < R.hours) (hne : plansL R ≠ []) {h : Int} (h0 : 0 ≤ h) (h1 : h < R.hours) :
    MustFacts R h (mustN 0 R : Int) (mustN 1 R : Int) ((plansL R).length : Int) ((plansL (outR R 0 h)).length : Int) ((plansL (outR R 1 h)).length : Int) := by
  have h16 := valid_16 hv
  have hp16 : 2 ^ R.hours.toNat ≤ 2 ^ 16 := Nat.pow_le_pow_right (by decide) h16
  have hA := mustN_lt (r := 0) hv
  have hB := mustN_lt (r := 1) hv
  have hlen : (plansL R).length ≤ 2 ^ R.hours.toNat := length_rightL R R.hours.toNat St.begin
  have hpos : 0 < (plansL R).length := List.length_pos_iff.2 hne
  have eE : ((2 : Int) ^ R.hours.toNat - 1) = ((2 ^ R.hours.toNat - 1 : Nat) : Int) := by
    have : 0 < 2 ^ R.hours.toNat := Nat.pow_pos (by decide)
    have e : ((2 : Int) ^ R.hours.toNat) = ((2 ^ R.hours.toNat : Nat) : Int) := by simp
    rw [e]; omega
  have hin : ∀ p, p ∈ plansL R → ∀ j, j < R.hours.toNat → p[j]? = some 0 ∨ p[j]? = some 1 := fun p hp j hj => (mem_plans hp).2 j (by rw [(mem_plans hp).1]; exact hj)
  have hout : ∀ p, p ∈ plansL R → ∀ j, R.hours.toNat ≤ j → p[j]? = none := fun p hp j hj => List.getElem?_eq_none (by rw [(mem_plans hp).1]; exact hj)
  obtain ⟨p0, hp0⟩ := List.exists_mem_of_ne_nil _ hne
  have hor : mustN 0 R ||| mustN 1 R < 2 ^ R.hours.toNat := Nat.or_lt_two_pow hA hB
  have hb : ∀ i : Int, (i = 0 ∨ i = 1) → (((plansL (outR R i h)).length : Int) == 0) = hasBit (mustN i R : Int) h := by
    intro i hi
    obtain ⟨j, rfl⟩ : ∃ j : Nat, h = j := ⟨h.toNat, by omega⟩
    rw [hasBit_nat, mustN_bit hne, plans_out hv hi h0 h1, Int.toNat_natCast]
    rw [Bool.eq_iff_iff]
    simp only [beq_iff_eq, List.all_eq_true, decide_eq_true_eq]
    constructor
    · intro hz p hp
      have hz2 : (plansL R).filter (fun p => decide (p[j]? ≠ some i)) = [] := List.eq_nil_of_length_eq_zero (by omega)
      have := List.filter_eq_nil_iff.1 hz2 p hp
      simpa using this
    · intro hall
      have : (plansL R).filter (fun p => decide (p[j]? ≠ some i)) = [] := List.filter_eq_nil_iff.2 (fun p hp => by simpa using hall p hp)
      rw [this]; rfl
  refine ⟨by omega, by omega, by omega, by omega, by omega, by omega, ?_, ?_, ?_, ?_, hb 0 (.inl rfl), hb 1 (.inr rfl)⟩
  · rw [plans_out hv (.inl rfl) h0 h1, plans_out hv (.inr rfl) h0 h1]
    have := filter_two (l := plansL R) (k := h.toNat) (fun p hp => hin p hp _ (by omega))
    omega
  · rw [band_nat (by omega) (by omega)]
    have : mustN 0 R &&& mustN 1 R = 0 := by
      apply Nat.eq_of_testBit_eq
      intro j
      rw [Nat.testBit_and, mustN_bit hne, mustN_bit hne, Nat.zero_testBit]
      cases h2 : (plansL R).all fun p => decide (p[j]? = some 0)
      · rfl
      · cases h3 : (plansL R).all fun p => decide (p[j]? = some 1)
        · rfl
        · have e1 := List.all_eq_true.1 h2 p0 hp0
          have e2 := List.all_eq_true.1 h3 p0 hp0
          simp only [decide_eq_true_eq] at e1 e2
          rw [e1] at e2; simp at e2
    rw [this]; rfl
  · rw [bor_nat (by omega) (by omega), eE]
    refine andNot_zero (by omega) (by omega) ?_
    intro j hj
    rw [Nat.testBit_two_pow_sub_one]
    by_cases hlt : j < R.hours.toNat
    · simpa using hlt
    · rw [Nat.testBit_lt_two_pow (Nat.lt_of_lt_of_le hor (Nat.pow_le_pow_right (by decide) (by omega)))] at hj
      cases hj
  · intro hn
    have hn1 : (plansL R).length = 1 := by omega
    obtain ⟨p, hp⟩ := List.length_eq_one_iff.1 hn1
    rw [bor_nat (by omega) (by omega), eE]
    congr 1
    apply Nat.eq_of_testBit_eq
    intro j
    rw [Nat.testBit_or, mustN_bit hne, mustN_bit hne, Nat.testBit_two_pow_sub_one, hp]
    have hpm : p ∈ plansL R := by rw [hp]; simp
    by_cases hlt : j < R.hours.toNat
    · rcases hin p hpm j hlt with e | e <;> simp [e, hlt]
    · have := hout p hpm j (by omega)
      simp [this, hlt]

theorem restMust_any (R : Rest) (k : Int) (hk0 : 0 ≤ k) (hk1 : k ≤ 255) (w : World) : Calls Try.prog 9 #[restV R, .int .u8 k] w fun e w' => e = .returned (.bool true) ∧ Below w.heap.size w w' := by
  by_cases hv : R.valid = true
  · by_cases hh : 0 < R.hours
    · by_cases hne : plansL R = []
      · refine restMust_none R k hv hh ?_ ?_ w
        · rw [mustR_eq hv, if_pos hne]
        · rw [countR_eq hv, hne]; rfl
      · have h0 := Int.emod_nonneg k (show R.hours ≠ 0 by omega)
        have h1 := Int.emod_lt_of_pos k hh
        refine restMust_some R k hk0 hk1 hv hh _ _ _ _ _ (must_facts hv hh hne h0 h1) ?_ (countR_eq hv) (countR_eq (outR_valid hv h0 h1).1) (countR_eq (outR_valid hv h0 h1).1) w
        rw [mustR_eq hv, if_neg hne]
    · have := Rest.valid_hours hv
      exact restMust_idle R k (.inr (by omega)) w
  · exact restMust_idle R k (.inl (by simpa using hv)) w

end Go.Proofs.Ytkgdejhooghknaa
