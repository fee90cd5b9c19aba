/- 'RestMore' returns true. -/
import Derived.Test.YtkgdejhooghknaaU2
namespace Go.Proofs.Ytkgdejhooghknaa
open Go.RowKit Go.Lap Go.Shelf

set_option maxRecDepth 100000 in
set_option maxHeartbeats 2000000 in
theorem restMore_bad (R : Rest) (k z : Int) (hv : R.valid = false) (w : World) : Calls Try.prog 11 #[restV R, .int .u8 k, .int .u16 z] w fun e w' => e = .returned (.bool true) ∧ Below w.heap.size w w' := by
  have c32 := hid (fun w => refRest_any R w)
  have c14 := hid awake_any
  have hv' := hid hv
  clear hv
  have hbw : Below w.heap.size w (w.alloc (.cells #[.int .i64 R.hours, .int .i64 R.r0.out, .int .i64 R.r0.total, .int .i64 R.r0.run, .int .i64 R.r0.off, .int .i64 R.r1.out, .int .i64 R.r1.total, .int .i64 R.r1.run, .int .i64 R.r1.off] 26)) := below_alloc (Below.refl _ _) _
  go_enter Try.func11, Try.ntmps11
  go_wp2_with (first | (go_at_call 32; with_reducible refine (c32.out _).mono ?_; rw [hv'.out]; rintro e w1 ⟨rfl, hb1⟩; have hbw : Below w.heap.size w _ := below_via hb1 hbw) | (go_at_call 14; with_reducible refine (c14.out _).mono ?_; rintro e w1 ⟨rfl, hb1⟩; have hbw : Below w.heap.size w _ := below_via hb1 hbw))
  go_ret
  exact ⟨rfl, hbw⟩

theorem u8_and1 (n : Int) : bits .and .u8 n 1 = n % 2 := by
  have h1 : (BitVec.ofInt 8 1).toNat = 2 ^ 1 - 1 := by decide
  have key : (BitVec.ofInt 8 n &&& BitVec.ofInt 8 1).toNat = (n % ((2 ^ 8 : Nat) : Int)).toNat % 2 ^ 1 := by
    rw [BitVec.toNat_and, BitVec.toNat_ofInt, h1, Nat.and_two_pow_sub_one_eq_mod]
  show IntKind.u8.wrap ((BitVec.ofInt 8 n &&& BitVec.ofInt 8 1).toNat : Nat) = n % 2
  rw [key]
  have : ∀ m : Int, 0 ≤ m → m < 2 → IntKind.u8.wrap m = m := by
    intro m h0 h1
    obtain rfl | rfl : m = 0 ∨ m = 1 := by omega
    · rfl
    · rfl
  rw [this _ (by omega) (by omega)]
  omega

theorem restMore_any (R : Rest) (k z : Int) (hk0 : 0 ≤ k) (hk1 : k ≤ 255) (hz0 : 0 ≤ z) (_hz1 : z ≤ 65535) (w : World) : Calls Try.prog 11 #[restV R, .int .u8 k, .int .u16 z] w fun e w' => e = .returned (.bool true) ∧ Below w.heap.size w w' := by
  cases hv : R.valid
  · exact restMore_bad R k z hv w
  · have hi : k % 2 = 0 ∨ k % 2 = 1 := by omega
    have hl := more_less hv hi (k := k / 2) (by omega)
    generalize hXd : R.put (k % 2) (moreRider (R.rider (k % 2)) R.hours (k / 2)) = X at hl
    obtain ⟨a, b, hcR, hcX, hab⟩ := hl.count hv
    have hcd := hl.til hv
    have huR : untilR R = (untilOf R, 0) := by simp [untilR, hv]
    have huX : untilR X = (untilOf X, 0) := by simp [untilR, hl.valid]
    have hR := fun h => hl.right hv (p := bitsL R.hours.toNat z) h
    rcases hl.best hv changes_low with ⟨hne, hfR⟩ | ⟨n1, n2, p1, p2, hfR, hfX, hnn⟩
    · rcases hl.best hv even_low with ⟨_, heR⟩ | ⟨m1, m2, q1, q2, heR, heX, hmm⟩
      · have hmR : mustR R = (0, 0, 4) := by rw [mustR_eq hv, if_pos hne]
        exact restMore_none R X (k % 2) k z hi (u8_and1 k) hk0 hk1 hz0 hv hXd.symm hR a b _ _ _ _ _ _ _ _ _ _ _ hcR hcX huR huX hfR rfl heR rfl hmR rfl hab hcd w
      · exfalso
        have h1 : (planR R evenG).2.2 = 0 := by rw [heR]
        have h2 : (planR R changesG).2.2 = 4 := by rw [hfR]
        have hb0 := St.begin_ok
        have hb1 : St.begin.hour = 0 := rfl
        have h16 := valid_16 hv
        have hn : found R evenG R.hours.toNat St.begin = none := (found_none even_low.alg hb0 (by omega)).2 hne
        simp [planR, hv, hn] at h1
    · rcases hl.best hv even_low with ⟨hne, _⟩ | ⟨m1, m2, q1, q2, heR, heX, hmm⟩
      · exfalso
        have h1 : (planR R changesG).2.2 = 0 := by rw [hfR]
        have hb0 := St.begin_ok
        have hb1 : St.begin.hour = 0 := rfl
        have h16 := valid_16 hv
        have hn : found R changesG R.hours.toNat St.begin = none := (found_none changes_low.alg hb0 (by omega)).2 hne
        simp [planR, hv, hn] at h1
      · have hne : plansL R ≠ [] := by
          intro hne
          have h1 : (planR R changesG).2.2 = 0 := by rw [hfR]
          have hb0 := St.begin_ok
          have hb1 : St.begin.hour = 0 := rfl
          have h16 := valid_16 hv
          have hn : found R changesG R.hours.toNat St.begin = none := (found_none changes_low.alg hb0 (by omega)).2 hne
          simp [planR, hv, hn] at h1
        obtain ⟨s, t, u, v, hmR, hmX, hus, hvt⟩ := hl.must hv hne
        exact restMore_some R X (k % 2) k z hi (u8_and1 k) hk0 hk1 hz0 hv hXd.symm hR a b _ _ n1 n2 m1 m2 s t u v p1 p2 q1 q2 hcR hcX huR huX hfR hfX heR heX hmR hmX hab hcd hnn hmm hus hvt w

end Go.Proofs.Ytkgdejhooghknaa
