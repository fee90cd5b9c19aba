/- The walk of 'RestMore'. -/
import Derived.Test.YtkgdejhooghknaaT2
import Derived.Deep.CutRange
import Derived.Deep.CutBlock
namespace Go.Proofs.Ytkgdejhooghknaa
open Go.RowKit Go.Lap Go.Shelf

theorem newInts_at {B : Nat} {W : World} {sv : Value} {xs : List Int} (h : NewInts B W sv xs) : IntsAt W sv xs := OwnInts.at (.inr h)

theorem andNot_nat16 (n k : Nat) (hn : n ≤ 65535) (hk : k ≤ 16) : bits .andNot .i64 (n : Int) (2 ^ k : Int) = clr n k := by
  rcases Nat.lt_or_ge k 16 with h | h
  · exact andNot_nat n k hn (by omega)
  · obtain rfl : k = 16 := by omega
    have e : clr (n : Int) ((16 : Nat) : Int) = n := by
      rw [clr, hasBit_nat, Nat.testBit_lt_two_pow (by omega)]; rfl
    rw [e]
    have ea : (BitVec.ofInt 64 (n : Int)).toNat = n := by rw [BitVec.toNat_ofInt]; omega
    show IntKind.i64.wrap ((BitVec.ofInt 64 (n : Int) &&& ~~~ BitVec.ofInt 64 ((2 : Int) ^ 16)).toNat : Nat) = _
    have h2 : BitVec.ofInt 64 (n : Int) &&& ~~~ BitVec.ofInt 64 ((2 : Int) ^ 16) = BitVec.ofInt 64 (n : Int) := by
      apply BitVec.eq_of_toNat_eq
      apply Nat.eq_of_testBit_eq
      intro i
      rw [BitVec.toNat_and, ea, Nat.testBit_and]
      rcases Nat.lt_or_ge i 16 with hi | hi
      · have : (~~~ BitVec.ofInt 64 ((2 : Int) ^ 16)).toNat.testBit i = true := by
          have hall : ∀ i : Fin 16, (~~~ BitVec.ofInt 64 ((2 : Int) ^ 16)).toNat.testBit i = true := by decide
          exact hall ⟨i, hi⟩
        rw [this, Bool.and_true]
      · rw [Nat.testBit_lt_two_pow (Nat.lt_of_lt_of_le (show n < 2 ^ 16 by omega) (Nat.pow_le_pow_right (by decide) hi))]; rfl
    rw [h2, ea, IntKind.wrap_i64]; omega

set_option maxRecDepth 100000 in
set_option maxHeartbeats 8000000 in
theorem restMore_some (R X : Rest) (i k z : Int) (hi : i = 0 ∨ i = 1) (hki : bits .and .u8 k 1 = i) (hk0 : 0 ≤ k) (hk1 : k ≤ 255) (hz0 : 0 ≤ z) (hv : R.valid = true) (hXd : X = R.put i (moreRider (R.rider i) R.hours (k / 2))) (hR : rightB R (bitsL R.hours.toNat z) = true → rightB X (bitsL R.hours.toNat z) = true)
    (a b c d n1 n2 m1 m2 s t u v : Int) (p1 p2 q1 q2 : List Int) (hcR : countR R = (a, 0)) (hcX : countR X = (b, 0)) (huR : untilR R = (c, 0)) (huX : untilR X = (d, 0)) (hfR : planR R changesG = (n1, p1, 0)) (hfX : planR X changesG = (n2, p2, 0)) (heR : planR R evenG = (m1, q1, 0)) (heX : planR X evenG = (m2, q2, 0)) (hmR : mustR R = (s, t, 0)) (hmX : mustR X = (u, v, 0)) (hab : a ≤ b) (hcd : c ≤ d) (hnn : n2 ≤ n1) (hmm : m2 ≤ m1) (hus : bits .andNot .i64 u s = 0) (hvt : bits .andNot .i64 v t = 0) (w : World) :
    Calls Try.prog 11 #[restV R, .int .u8 k, .int .u16 z] w fun e w' => e = .returned (.bool true) ∧ Below w.heap.size w w' := by
  have hh := Rest.valid_hours hv
  have ho := Rest.valid_ok hv
  have hlen : (bitsL R.hours.toNat z).length ≤ 1000 := by rw [bitsL_length]; omega
  have c32 := hid (fun w => refRest_any R w)
  have c33 := hid (fun w => by_any R.hours z hh.1 hh.2 hz0 w)
  have c17 := hid (fun w => Count_any R w)
  have c17x := hid (fun w => Count_any X w)
  have c19 := hid (fun w => Until_any R w)
  have c19x := hid (fun w => Until_any X w)
  have c21 := hid (fun w => Fewest_any R w)
  have c21x := hid (fun w => Fewest_any X w)
  have c23 := hid (fun w => Even_any R w)
  have c23x := hid (fun w => Even_any X w)
  have c28 := hid (fun w => Must_any R w)
  have c28x := hid (fun w => Must_any X w)
  have c14 := hid awake_any
  have c35 := hid (fun (w : World) (v : Value) (h : IntsAt w v (bitsL R.hours.toNat z)) => right_any R v _ hlen w h)
  have c35x := hid (fun (w : World) (v : Value) (h : IntsAt w v (bitsL R.hours.toNat z)) => right_any X v _ hlen w h)
  have hXd' := hid hXd
  clear hXd
  have d1 : decide (b < a) = false := by simp; omega
  have d2 : decide (d < c) = false := by simp; omega
  have d3 : decide (n1 < n2) = false := by simp; omega
  have d4 : decide (m1 < m2) = false := by simp; omega
  clear hab hcd hnn hmm
  have hv' := hid hv
  have hcR' := hid hcR
  have hcX' := hid hcX
  have huR' := hid huR
  have huX' := hid huX
  have hfR' := hid hfR
  have hfX' := hid hfX
  have heR' := hid heR
  have heX' := hid heX
  have hmR' := hid hmR
  have hmX' := hid hmX
  clear hv hcR hcX huR huX hfR hfX heR heX hmR hmX
  have hX := hid (show (w.alloc (.cells #[.int .i64 R.hours, .int .i64 R.r0.out, .int .i64 R.r0.total, .int .i64 R.r0.run, .int .i64 R.r0.off, .int .i64 R.r1.out, .int .i64 R.r1.total, .int .i64 R.r1.run, .int .i64 R.r1.off] 26)).heap[w.heap.size]? = some (.cells #[.int .i64 R.hours, .int .i64 R.r0.out, .int .i64 R.r0.total, .int .i64 R.r0.run, .int .i64 R.r0.off, .int .i64 R.r1.out, .int .i64 R.r1.total, .int .i64 R.r1.run, .int .i64 R.r1.off] 26 (0, 0)) from alloc_at rfl)
  have hbw : Below w.heap.size w (w.alloc (.cells #[.int .i64 R.hours, .int .i64 R.r0.out, .int .i64 R.r0.total, .int .i64 R.r0.run, .int .i64 R.r0.off, .int .i64 R.r1.out, .int .i64 R.r1.total, .int .i64 R.r1.run, .int .i64 R.r1.off] 26)) := below_alloc (Below.refl _ _) _
  have hi0 : 0 ≤ i := by omega
  have hi1 : i < 2 := by omega
  have hki' := hid hki
  have hrem : 0 ≤ k / 2 % 4 := by omega
  go_enter Try.func11, Try.ntmps11
  go_upto_region 4 with (go_at_call 32; with_reducible refine (c32.out _).mono ?_; rw [hv'.out]; rintro e w1 ⟨rfl, hb1⟩; have hbw : Below w.heap.size w _ := below_via hb1 hbw; have hX := hid ((hb1.block _ (cells_of hX.out).1).trans hX.out); obtain ⟨lx, cx⟩ := cells_of hX.out)
  have hY := hid (show (w1.alloc (.cells #[.int .i64 R.hours, .int .i64 R.r0.out, .int .i64 R.r0.total, .int .i64 R.r0.run, .int .i64 R.r0.off, .int .i64 R.r1.out, .int .i64 R.r1.total, .int .i64 R.r1.run, .int .i64 R.r1.off] 26)).heap[w1.heap.size]? = some (.cells #[.int .i64 R.hours, .int .i64 R.r0.out, .int .i64 R.r0.total, .int .i64 R.r0.run, .int .i64 R.r0.off, .int .i64 R.r1.out, .int .i64 R.r1.total, .int .i64 R.r1.run, .int .i64 R.r1.off] 26 (0, 0)) from alloc_at rfl)
  have hXa := hid (show (w1.alloc (.cells #[.int .i64 R.hours, .int .i64 R.r0.out, .int .i64 R.r0.total, .int .i64 R.r0.run, .int .i64 R.r0.off, .int .i64 R.r1.out, .int .i64 R.r1.total, .int .i64 R.r1.run, .int .i64 R.r1.off] 26)).heap[w.heap.size]? = some (.cells #[.int .i64 R.hours, .int .i64 R.r0.out, .int .i64 R.r0.total, .int .i64 R.r0.run, .int .i64 R.r0.off, .int .i64 R.r1.out, .int .i64 R.r1.total, .int .i64 R.r1.run, .int .i64 R.r1.off] 26 (0, 0)) from alloc_old (cells_of hX.out).1 hX.out)
  have hbwa := hid (show Below w.heap.size w (w1.alloc (.cells #[.int .i64 R.hours, .int .i64 R.r0.out, .int .i64 R.r0.total, .int .i64 R.r0.run, .int .i64 R.r0.off, .int .i64 R.r1.out, .int .i64 R.r1.total, .int .i64 R.r1.run, .int .i64 R.r1.off] 26)) from below_alloc hbw _)
  have hlt1 : w.heap.size < w1.heap.size := (cells_of hX.out).1
  have hne1 : ¬ w1.heap.size = w.heap.size := by omega
  have hX1 := hX
  have hbw1 := hid hbw
  clear hX hb1 cx hbw lx
  go_upto_block 0 with fail
  go_cut [8] from 37 to 97 (fun _ wx => Below w.heap.size w wx ∧ Hid (wx.heap[w.heap.size]? = some (.cells #[.int .i64 R.hours, .int .i64 R.r0.out, .int .i64 R.r0.total, .int .i64 R.r0.run, .int .i64 R.r0.off, .int .i64 R.r1.out, .int .i64 R.r1.total, .int .i64 R.r1.run, .int .i64 R.r1.off] 26 (0, 0))) ∧ Hid (wx.heap[w1.heap.size]? = some (.cells #[.int .i64 X.hours, .int .i64 X.r0.out, .int .i64 X.r0.total, .int .i64 X.r0.run, .int .i64 X.r0.off, .int .i64 X.r1.out, .int .i64 X.r1.total, .int .i64 X.r1.run, .int .i64 X.r1.off] 26 (0, 0))))
  case first =>
    have hk4 : k / 2 % 4 = 0 ∨ k / 2 % 4 = 1 ∨ k / 2 % 4 = 2 ∨ k / 2 % 4 = 3 := by omega
    have hr0 := ho.1
    have hr1 := ho.2
    obtain ⟨q0, q1, q2, q3, q4, q5, q6, q7⟩ := hr0
    obtain ⟨t0, t1, t2, t3, t4, t5, t6, t7⟩ := hr1
    rcases hi with rfl | rfl
    · rcases hk4 with hkk | hkk | hkk | hkk
      · have e0 : (k / 2 % 4 == 0) = true := by rw [hkk]; rfl
        have g0 := Int.emod_nonneg (k / 2 / 4) (show R.hours + 1 ≠ 0 by omega)
        have g1 := Int.emod_lt_of_pos (k / 2 / 4) (show 0 < R.hours + 1 by omega)
        have g2 : k / 2 / 4 % (R.hours + 1) ≤ 16 := by omega
        obtain ⟨E, hE⟩ : ∃ E : Int, E = 2 ^ (k / 2 / 4 % (R.hours + 1)).toNat := ⟨_, rfl⟩
        have hE1 : E ≤ 65536 ∧ 0 < E := by rw [hE]; exact ⟨two_pow_le (m := 16) (by omega), Int.pow_pos (by decide)⟩
        have hw1 : wrap64 (2 ^ (k / 2 / 4 % (R.hours + 1)).toNat) = E := by rw [← hE]; exact IntWalk.wrap64_in _ (by omega)
        have hcl : bits .andNot .i64 R.r0.out E = clr R.r0.out (k / 2 / 4 % (R.hours + 1)) := by
          have := andNot_nat16 R.r0.out.toNat (k / 2 / 4 % (R.hours + 1)).toNat (by omega) (by omega)
          rw [Int.toNat_of_nonneg (by omega), Int.toNat_of_nonneg g0] at this
          rw [hE]; exact this
        have hE' := hid hE
        have hkk' := hid hkk
        clear hE hE1 hkk
        obtain ⟨lx1, cx1⟩ := cells_of hX1.out
        go_wp2_with fail
        go_region
        all_goals
          go_wp2_with fail
          go_meet
          refine ⟨by first | exact below_alloc hbw1.out _ | exact (below_alloc hbw1.out _).drew, hid (alloc_old (cells_of hX1.out).1 hX1.out), hid ((alloc_at rfl).trans ?_)⟩
          rw [hXd'.out]
          simp [Rest.put, moreRider, Rest.rider, hkk'.out]
      all_goals
        have e0 : (k / 2 % 4 == 0) = false := by rw [hkk]; rfl
        have hkk' := hid hkk
        go_wp2_with fail
        all_goals
          go_meet
          refine ⟨below_alloc hbw1.out _, hid (alloc_old (cells_of hX1.out).1 hX1.out), hid ((alloc_at rfl).trans ?_)⟩
          rw [hXd'.out]
          simp [Rest.put, moreRider, Rest.rider, hkk'.out]
          try omega
    · rcases hk4 with hkk | hkk | hkk | hkk
      · have e0 : (k / 2 % 4 == 0) = true := by rw [hkk]; rfl
        have g0 := Int.emod_nonneg (k / 2 / 4) (show R.hours + 1 ≠ 0 by omega)
        have g1 := Int.emod_lt_of_pos (k / 2 / 4) (show 0 < R.hours + 1 by omega)
        have g2 : k / 2 / 4 % (R.hours + 1) ≤ 16 := by omega
        obtain ⟨E, hE⟩ : ∃ E : Int, E = 2 ^ (k / 2 / 4 % (R.hours + 1)).toNat := ⟨_, rfl⟩
        have hE1 : E ≤ 65536 ∧ 0 < E := by rw [hE]; exact ⟨two_pow_le (m := 16) (by omega), Int.pow_pos (by decide)⟩
        have hw1 : wrap64 (2 ^ (k / 2 / 4 % (R.hours + 1)).toNat) = E := by rw [← hE]; exact IntWalk.wrap64_in _ (by omega)
        have hcl : bits .andNot .i64 R.r1.out E = clr R.r1.out (k / 2 / 4 % (R.hours + 1)) := by
          have := andNot_nat16 R.r1.out.toNat (k / 2 / 4 % (R.hours + 1)).toNat (by omega) (by omega)
          rw [Int.toNat_of_nonneg (by omega), Int.toNat_of_nonneg g0] at this
          rw [hE]; exact this
        have hE' := hid hE
        have hkk' := hid hkk
        clear hE hE1 hkk
        obtain ⟨lx1, cx1⟩ := cells_of hX1.out
        go_wp2_with fail
        go_region
        all_goals
          go_wp2_with fail
          go_meet
          refine ⟨by first | exact below_alloc hbw1.out _ | exact (below_alloc hbw1.out _).drew, hid (alloc_old (cells_of hX1.out).1 hX1.out), hid ((alloc_at rfl).trans ?_)⟩
          rw [hXd'.out]
          simp [Rest.put, moreRider, Rest.rider, hkk'.out]
      all_goals
        have e0 : (k / 2 % 4 == 0) = false := by rw [hkk]; rfl
        have hkk' := hid hkk
        go_wp2_with fail
        all_goals
          go_meet
          refine ⟨below_alloc hbw1.out _, hid (alloc_old (cells_of hX1.out).1 hX1.out), hid ((alloc_at rfl).trans ?_)⟩
          rw [hXd'.out]
          simp [Rest.put, moreRider, Rest.rider, hkk'.out]
          try omega
  case rest =>
    obtain ⟨hbw, hX, hY⟩ := hcut
    obtain ⟨lx, cx⟩ := cells_of hX.out
    obtain ⟨ly, cy⟩ := cells_of hY.out
    clear hX1 hXa hbw1 hbwa
    cases hP : rightB R (bitsL R.hours.toNat z)
    · have hP' := hid hP
      have hPx' := hid (rfl : (1 : Nat) = 1)
      clear hP
      go_wp2_with (first | (go_at_call 33; with_reducible refine (c33.out _).mono ?_; rintro e w1 ⟨sv, rfl, hn, hb1⟩; have hbw : Below w.heap.size w _ := below_via hb1 hbw; have hX := hid ((hb1.block _ (cells_of hX.out).1).trans hX.out); obtain ⟨lx, cx⟩ := cells_of hX.out; have hY := hid ((hb1.block _ (cells_of hY.out).1).trans hY.out); obtain ⟨ly, cy⟩ := cells_of hY.out; (try (have hp := hp.below hb1)); have hp := newInts_at hn; clear hn) | (go_at_call 35; with_reducible refine (c35.out _ _ hp).mono ?_; rw [hP'.out]; rintro e w1 ⟨rfl, hb1⟩; have hbw : Below w.heap.size w _ := below_via hb1 hbw; have hX := hid ((hb1.block _ (cells_of hX.out).1).trans hX.out); obtain ⟨lx, cx⟩ := cells_of hX.out; have hY := hid ((hb1.block _ (cells_of hY.out).1).trans hY.out); obtain ⟨ly, cy⟩ := cells_of hY.out; (try (have hp := hp.below hb1))) | (go_at_call 35; with_reducible refine (c35x.out _ _ hp).mono ?_; rw [hPx'.out]; rintro e w1 ⟨rfl, hb1⟩; have hbw : Below w.heap.size w _ := below_via hb1 hbw; have hX := hid ((hb1.block _ (cells_of hX.out).1).trans hX.out); obtain ⟨lx, cx⟩ := cells_of hX.out; have hY := hid ((hb1.block _ (cells_of hY.out).1).trans hY.out); obtain ⟨ly, cy⟩ := cells_of hY.out; (try (have hp := hp.below hb1))) | (go_at_call 17; with_reducible refine (c17.out _).mono ?_; rw [hcR'.out]; rintro e w1 ⟨rfl, hb1⟩; have hbw : Below w.heap.size w _ := below_via hb1 hbw; have hX := hid ((hb1.block _ (cells_of hX.out).1).trans hX.out); obtain ⟨lx, cx⟩ := cells_of hX.out; have hY := hid ((hb1.block _ (cells_of hY.out).1).trans hY.out); obtain ⟨ly, cy⟩ := cells_of hY.out; (try (have hp := hp.below hb1))) | (go_at_call 17; with_reducible refine (c17x.out _).mono ?_; rw [hcX'.out]; rintro e w1 ⟨rfl, hb1⟩; have hbw : Below w.heap.size w _ := below_via hb1 hbw; have hX := hid ((hb1.block _ (cells_of hX.out).1).trans hX.out); obtain ⟨lx, cx⟩ := cells_of hX.out; have hY := hid ((hb1.block _ (cells_of hY.out).1).trans hY.out); obtain ⟨ly, cy⟩ := cells_of hY.out; (try (have hp := hp.below hb1))) | (go_at_call 19; with_reducible refine (c19.out _).mono ?_; rw [huR'.out]; rintro e w1 ⟨rfl, hb1⟩; have hbw : Below w.heap.size w _ := below_via hb1 hbw; have hX := hid ((hb1.block _ (cells_of hX.out).1).trans hX.out); obtain ⟨lx, cx⟩ := cells_of hX.out; have hY := hid ((hb1.block _ (cells_of hY.out).1).trans hY.out); obtain ⟨ly, cy⟩ := cells_of hY.out; (try (have hp := hp.below hb1))) | (go_at_call 19; with_reducible refine (c19x.out _).mono ?_; rw [huX'.out]; rintro e w1 ⟨rfl, hb1⟩; have hbw : Below w.heap.size w _ := below_via hb1 hbw; have hX := hid ((hb1.block _ (cells_of hX.out).1).trans hX.out); obtain ⟨lx, cx⟩ := cells_of hX.out; have hY := hid ((hb1.block _ (cells_of hY.out).1).trans hY.out); obtain ⟨ly, cy⟩ := cells_of hY.out; (try (have hp := hp.below hb1))) | (go_at_call 21; with_reducible refine (c21.out _).mono ?_; rw [hfR'.out]; rintro e w1 ⟨sv1, rfl, hn1, hb1⟩; clear hn1; have hbw : Below w.heap.size w _ := below_via hb1 hbw; have hX := hid ((hb1.block _ (cells_of hX.out).1).trans hX.out); obtain ⟨lx, cx⟩ := cells_of hX.out; have hY := hid ((hb1.block _ (cells_of hY.out).1).trans hY.out); obtain ⟨ly, cy⟩ := cells_of hY.out; (try (have hp := hp.below hb1))) | (go_at_call 21; with_reducible refine (c21x.out _).mono ?_; rw [hfX'.out]; rintro e w1 ⟨sv1, rfl, hn1, hb1⟩; clear hn1; have hbw : Below w.heap.size w _ := below_via hb1 hbw; have hX := hid ((hb1.block _ (cells_of hX.out).1).trans hX.out); obtain ⟨lx, cx⟩ := cells_of hX.out; have hY := hid ((hb1.block _ (cells_of hY.out).1).trans hY.out); obtain ⟨ly, cy⟩ := cells_of hY.out; (try (have hp := hp.below hb1))) | (go_at_call 23; with_reducible refine (c23.out _).mono ?_; rw [heR'.out]; rintro e w1 ⟨sv1, rfl, hn1, hb1⟩; clear hn1; have hbw : Below w.heap.size w _ := below_via hb1 hbw; have hX := hid ((hb1.block _ (cells_of hX.out).1).trans hX.out); obtain ⟨lx, cx⟩ := cells_of hX.out; have hY := hid ((hb1.block _ (cells_of hY.out).1).trans hY.out); obtain ⟨ly, cy⟩ := cells_of hY.out; (try (have hp := hp.below hb1))) | (go_at_call 23; with_reducible refine (c23x.out _).mono ?_; rw [heX'.out]; rintro e w1 ⟨sv1, rfl, hn1, hb1⟩; clear hn1; have hbw : Below w.heap.size w _ := below_via hb1 hbw; have hX := hid ((hb1.block _ (cells_of hX.out).1).trans hX.out); obtain ⟨lx, cx⟩ := cells_of hX.out; have hY := hid ((hb1.block _ (cells_of hY.out).1).trans hY.out); obtain ⟨ly, cy⟩ := cells_of hY.out; (try (have hp := hp.below hb1))) | (go_at_call 28; with_reducible refine (c28.out _).mono ?_; rw [hmR'.out]; rintro e w1 ⟨rfl, hb1⟩; have hbw : Below w.heap.size w _ := below_via hb1 hbw; have hX := hid ((hb1.block _ (cells_of hX.out).1).trans hX.out); obtain ⟨lx, cx⟩ := cells_of hX.out; have hY := hid ((hb1.block _ (cells_of hY.out).1).trans hY.out); obtain ⟨ly, cy⟩ := cells_of hY.out; (try (have hp := hp.below hb1))) | (go_at_call 28; with_reducible refine (c28x.out _).mono ?_; rw [hmX'.out]; rintro e w1 ⟨rfl, hb1⟩; have hbw : Below w.heap.size w _ := below_via hb1 hbw; have hX := hid ((hb1.block _ (cells_of hX.out).1).trans hX.out); obtain ⟨lx, cx⟩ := cells_of hX.out; have hY := hid ((hb1.block _ (cells_of hY.out).1).trans hY.out); obtain ⟨ly, cy⟩ := cells_of hY.out; (try (have hp := hp.below hb1))) | (go_at_call 14; with_reducible refine (c14.out _).mono ?_; rintro e w1 ⟨rfl, hb1⟩; have hbw : Below w.heap.size w _ := below_via hb1 hbw; have hX := hid ((hb1.block _ (cells_of hX.out).1).trans hX.out); obtain ⟨lx, cx⟩ := cells_of hX.out; have hY := hid ((hb1.block _ (cells_of hY.out).1).trans hY.out); obtain ⟨ly, cy⟩ := cells_of hY.out; (try (have hp := hp.below hb1))))
      go_ret
      exact ⟨rfl, hbw⟩
    · have hP' := hid hP
      have hPx' := hid (hR hP)
      clear hP
      go_wp2_with (first | (go_at_call 33; with_reducible refine (c33.out _).mono ?_; rintro e w1 ⟨sv, rfl, hn, hb1⟩; have hbw : Below w.heap.size w _ := below_via hb1 hbw; have hX := hid ((hb1.block _ (cells_of hX.out).1).trans hX.out); obtain ⟨lx, cx⟩ := cells_of hX.out; have hY := hid ((hb1.block _ (cells_of hY.out).1).trans hY.out); obtain ⟨ly, cy⟩ := cells_of hY.out; (try (have hp := hp.below hb1)); have hp := newInts_at hn; clear hn) | (go_at_call 35; with_reducible refine (c35.out _ _ hp).mono ?_; rw [hP'.out]; rintro e w1 ⟨rfl, hb1⟩; have hbw : Below w.heap.size w _ := below_via hb1 hbw; have hX := hid ((hb1.block _ (cells_of hX.out).1).trans hX.out); obtain ⟨lx, cx⟩ := cells_of hX.out; have hY := hid ((hb1.block _ (cells_of hY.out).1).trans hY.out); obtain ⟨ly, cy⟩ := cells_of hY.out; (try (have hp := hp.below hb1))) | (go_at_call 35; with_reducible refine (c35x.out _ _ hp).mono ?_; rw [hPx'.out]; rintro e w1 ⟨rfl, hb1⟩; have hbw : Below w.heap.size w _ := below_via hb1 hbw; have hX := hid ((hb1.block _ (cells_of hX.out).1).trans hX.out); obtain ⟨lx, cx⟩ := cells_of hX.out; have hY := hid ((hb1.block _ (cells_of hY.out).1).trans hY.out); obtain ⟨ly, cy⟩ := cells_of hY.out; (try (have hp := hp.below hb1))) | (go_at_call 17; with_reducible refine (c17.out _).mono ?_; rw [hcR'.out]; rintro e w1 ⟨rfl, hb1⟩; have hbw : Below w.heap.size w _ := below_via hb1 hbw; have hX := hid ((hb1.block _ (cells_of hX.out).1).trans hX.out); obtain ⟨lx, cx⟩ := cells_of hX.out; have hY := hid ((hb1.block _ (cells_of hY.out).1).trans hY.out); obtain ⟨ly, cy⟩ := cells_of hY.out; (try (have hp := hp.below hb1))) | (go_at_call 17; with_reducible refine (c17x.out _).mono ?_; rw [hcX'.out]; rintro e w1 ⟨rfl, hb1⟩; have hbw : Below w.heap.size w _ := below_via hb1 hbw; have hX := hid ((hb1.block _ (cells_of hX.out).1).trans hX.out); obtain ⟨lx, cx⟩ := cells_of hX.out; have hY := hid ((hb1.block _ (cells_of hY.out).1).trans hY.out); obtain ⟨ly, cy⟩ := cells_of hY.out; (try (have hp := hp.below hb1))) | (go_at_call 19; with_reducible refine (c19.out _).mono ?_; rw [huR'.out]; rintro e w1 ⟨rfl, hb1⟩; have hbw : Below w.heap.size w _ := below_via hb1 hbw; have hX := hid ((hb1.block _ (cells_of hX.out).1).trans hX.out); obtain ⟨lx, cx⟩ := cells_of hX.out; have hY := hid ((hb1.block _ (cells_of hY.out).1).trans hY.out); obtain ⟨ly, cy⟩ := cells_of hY.out; (try (have hp := hp.below hb1))) | (go_at_call 19; with_reducible refine (c19x.out _).mono ?_; rw [huX'.out]; rintro e w1 ⟨rfl, hb1⟩; have hbw : Below w.heap.size w _ := below_via hb1 hbw; have hX := hid ((hb1.block _ (cells_of hX.out).1).trans hX.out); obtain ⟨lx, cx⟩ := cells_of hX.out; have hY := hid ((hb1.block _ (cells_of hY.out).1).trans hY.out); obtain ⟨ly, cy⟩ := cells_of hY.out; (try (have hp := hp.below hb1))) | (go_at_call 21; with_reducible refine (c21.out _).mono ?_; rw [hfR'.out]; rintro e w1 ⟨sv1, rfl, hn1, hb1⟩; clear hn1; have hbw : Below w.heap.size w _ := below_via hb1 hbw; have hX := hid ((hb1.block _ (cells_of hX.out).1).trans hX.out); obtain ⟨lx, cx⟩ := cells_of hX.out; have hY := hid ((hb1.block _ (cells_of hY.out).1).trans hY.out); obtain ⟨ly, cy⟩ := cells_of hY.out; (try (have hp := hp.below hb1))) | (go_at_call 21; with_reducible refine (c21x.out _).mono ?_; rw [hfX'.out]; rintro e w1 ⟨sv1, rfl, hn1, hb1⟩; clear hn1; have hbw : Below w.heap.size w _ := below_via hb1 hbw; have hX := hid ((hb1.block _ (cells_of hX.out).1).trans hX.out); obtain ⟨lx, cx⟩ := cells_of hX.out; have hY := hid ((hb1.block _ (cells_of hY.out).1).trans hY.out); obtain ⟨ly, cy⟩ := cells_of hY.out; (try (have hp := hp.below hb1))) | (go_at_call 23; with_reducible refine (c23.out _).mono ?_; rw [heR'.out]; rintro e w1 ⟨sv1, rfl, hn1, hb1⟩; clear hn1; have hbw : Below w.heap.size w _ := below_via hb1 hbw; have hX := hid ((hb1.block _ (cells_of hX.out).1).trans hX.out); obtain ⟨lx, cx⟩ := cells_of hX.out; have hY := hid ((hb1.block _ (cells_of hY.out).1).trans hY.out); obtain ⟨ly, cy⟩ := cells_of hY.out; (try (have hp := hp.below hb1))) | (go_at_call 23; with_reducible refine (c23x.out _).mono ?_; rw [heX'.out]; rintro e w1 ⟨sv1, rfl, hn1, hb1⟩; clear hn1; have hbw : Below w.heap.size w _ := below_via hb1 hbw; have hX := hid ((hb1.block _ (cells_of hX.out).1).trans hX.out); obtain ⟨lx, cx⟩ := cells_of hX.out; have hY := hid ((hb1.block _ (cells_of hY.out).1).trans hY.out); obtain ⟨ly, cy⟩ := cells_of hY.out; (try (have hp := hp.below hb1))) | (go_at_call 28; with_reducible refine (c28.out _).mono ?_; rw [hmR'.out]; rintro e w1 ⟨rfl, hb1⟩; have hbw : Below w.heap.size w _ := below_via hb1 hbw; have hX := hid ((hb1.block _ (cells_of hX.out).1).trans hX.out); obtain ⟨lx, cx⟩ := cells_of hX.out; have hY := hid ((hb1.block _ (cells_of hY.out).1).trans hY.out); obtain ⟨ly, cy⟩ := cells_of hY.out; (try (have hp := hp.below hb1))) | (go_at_call 28; with_reducible refine (c28x.out _).mono ?_; rw [hmX'.out]; rintro e w1 ⟨rfl, hb1⟩; have hbw : Below w.heap.size w _ := below_via hb1 hbw; have hX := hid ((hb1.block _ (cells_of hX.out).1).trans hX.out); obtain ⟨lx, cx⟩ := cells_of hX.out; have hY := hid ((hb1.block _ (cells_of hY.out).1).trans hY.out); obtain ⟨ly, cy⟩ := cells_of hY.out; (try (have hp := hp.below hb1))) | (go_at_call 14; with_reducible refine (c14.out _).mono ?_; rintro e w1 ⟨rfl, hb1⟩; have hbw : Below w.heap.size w _ := below_via hb1 hbw; have hX := hid ((hb1.block _ (cells_of hX.out).1).trans hX.out); obtain ⟨lx, cx⟩ := cells_of hX.out; have hY := hid ((hb1.block _ (cells_of hY.out).1).trans hY.out); obtain ⟨ly, cy⟩ := cells_of hY.out; (try (have hp := hp.below hb1))))
      go_ret
      exact ⟨rfl, hbw⟩
end Go.Proofs.Ytkgdejhooghknaa
