/- The walk of 'RestMust'. -/
import Derived.Test.YtkgdejhooghknaaQ1
namespace Go.Proofs.Ytkgdejhooghknaa
open Go.RowKit Go.Lap Go.Shelf

/-- What the law's numbers are, if there is a right plan. -/
structure MustFacts (R : Rest) (h A B n X Y : Int) : Prop where
  a0 : 0 ≤ A
  b0 : 0 ≤ B
  n0 : 0 < n
  n1 : n ≤ 65536
  x0 : 0 ≤ X
  y0 : 0 ≤ Y
  sum : X + Y = n
  ab : bits .and .i64 A B = 0
  every : bits .andNot .i64 (bits .or .i64 A B) (2 ^ R.hours.toNat - 1) = 0
  one : n = 1 → bits .or .i64 A B = 2 ^ R.hours.toNat - 1
  xa : (X == 0) = hasBit A h
  yb : (Y == 0) = hasBit B h

set_option maxRecDepth 100000 in
set_option maxHeartbeats 4000000 in
theorem restMust_some (R : Rest) (k : Int) (hk0 : 0 ≤ k) (hk1 : k ≤ 255) (hv : R.valid = true) (hh : 0 < R.hours) (A B n X Y : Int) (hf : MustFacts R (k % R.hours) A B n X Y)
    (hm : mustR R = (A, B, 0)) (hc : countR R = (n, 0)) (hx : countR (outR R 0 (k % R.hours)) = (X, 0)) (hy : countR (outR R 1 (k % R.hours)) = (Y, 0)) (w : World) :
    Calls Try.prog 9 #[restV R, .int .u8 k] w fun e w' => e = .returned (.bool true) ∧ Below w.heap.size w w' := by
  have hh2 := Rest.valid_hours hv
  have ho := Rest.valid_ok hv
  have hg0 := Int.emod_nonneg k (show R.hours ≠ 0 by omega)
  have hg1 := Int.emod_lt_of_pos k hh
  have hne : (R.hours == 0) = false := by simp; omega
  have c32 := hid (fun w => refRest_any R w)
  have c28 := hid (fun w => Must_any R w)
  have c17 := hid (fun w => Count_any R w)
  have c40 := hid (fun w => out_any R 0 (k % R.hours) (.inl rfl) hg0 (by omega) ho.1 ho.2 w)
  have c41 := hid (fun w => out_any R 1 (k % R.hours) (.inr rfl) hg0 (by omega) ho.1 ho.2 w)
  have c17x := hid (fun w => Count_any (outR R 0 (k % R.hours)) w)
  have c17y := hid (fun w => Count_any (outR R 1 (k % R.hours)) w)
  have c14 := hid awake_any
  have hv' := hid hv
  have hm' := hid hm
  have hc' := hid hc
  have hx' := hid hx
  have hy' := hid hy
  clear hv hm hc hx hy
  obtain ⟨a0, b0, n0, n1, x0, y0, sum, ab, every, one, xa, yb⟩ := hf
  have hp : (2 : Int) ^ R.hours.toNat ≤ 2 ^ 16 := two_pow_le (by omega)
  have hp0 : (0 : Int) < 2 ^ R.hours.toNat := Int.pow_pos (by decide)
  obtain ⟨E, hE⟩ : ∃ E : Int, E = 2 ^ R.hours.toNat := ⟨_, rfl⟩
  have hEa : 0 < E ∧ E ≤ 65536 := by rw [hE]; exact ⟨hp0, hp⟩
  have hw1 : wrap64 E = E := IntWalk.wrap64_in _ (by omega)
  have hw2 : IntKind.i64.wrap (E - 1) = E - 1 := IntWalk.i64_in _ (by omega)
  have hw3 : wrap64 (E - 1) = E - 1 := IntWalk.wrap64_in _ (by omega)
  have hsh : wrap64 (2 ^ R.hours.toNat) = E := by rw [← hE]; exact hw1
  rw [← hE] at every one
  clear hp hp0 hEa
  have hE' := hid hE
  clear hE
  have hsum : IntKind.i64.wrap (X + Y) = n := (IntWalk.i64_in _ (by omega)).trans sum
  have hsum2 : wrap64 (X + Y) = n := (IntWalk.wrap64_in _ (by omega)).trans sum
  have xa2 : (X == 0) = (A >>> (k % R.hours).toNat % 2 == 1) := xa
  have yb2 : (Y == 0) = (B >>> (k % R.hours).toNat % 2 == 1) := yb
  have sum' := hid sum
  obtain ⟨bx, hbx⟩ : ∃ bx, (X == 0) = bx := ⟨_, rfl⟩
  obtain ⟨bz, hbz⟩ : ∃ bz, (Y == 0) = bz := ⟨_, rfl⟩
  rw [hbx] at xa2
  rw [hbz] at yb2
  have xa3 : (A / 2 ^ (k % R.hours).toNat % 2 == 1) = bx := by rw [xa2, Int.shiftRight_eq_div_pow]; simp
  have yb3 : (B / 2 ^ (k % R.hours).toNat % 2 == 1) = bz := by rw [yb2, Int.shiftRight_eq_div_pow]; simp
  have da : decide (A < 0) = false := by simpa using a0
  have db : decide (B < 0) = false := by simpa using b0
  clear xa yb sum xa2 yb2
  have hX := hid (show (w.alloc (.cells #[.int .i64 R.hours, .int .i64 R.r0.out, .int .i64 R.r0.total, .int .i64 R.r0.run, .int .i64 R.r0.off, .int .i64 R.r1.out, .int .i64 R.r1.total, .int .i64 R.r1.run, .int .i64 R.r1.off] 26)).heap[w.heap.size]? = some (.cells #[.int .i64 R.hours, .int .i64 R.r0.out, .int .i64 R.r0.total, .int .i64 R.r0.run, .int .i64 R.r0.off, .int .i64 R.r1.out, .int .i64 R.r1.total, .int .i64 R.r1.run, .int .i64 R.r1.off] 26 (0, 0)) from alloc_at rfl)
  have hbw : Below w.heap.size w (w.alloc (.cells #[.int .i64 R.hours, .int .i64 R.r0.out, .int .i64 R.r0.total, .int .i64 R.r0.run, .int .i64 R.r0.off, .int .i64 R.r1.out, .int .i64 R.r1.total, .int .i64 R.r1.run, .int .i64 R.r1.off] 26)) := below_alloc (Below.refl _ _) _
  by_cases hn : n = 1
  · subst hn
    have hone := one rfl
    rw [hone] at every
    clear one
    go_enter Try.func9, Try.ntmps9
    go_wp2_with (first | (go_at_call 32; with_reducible refine (c32.out _).mono ?_; rw [hv'.out]; rintro e w1 ⟨rfl, hb1⟩; have hbw : Below w.heap.size w _ := below_via hb1 hbw; have hX := hid ((hb1.block _ (cells_of hX.out).1).trans hX.out); obtain ⟨lx, cx⟩ := cells_of hX.out) | (go_at_call 28; with_reducible refine (c28.out _).mono ?_; rw [hm'.out]; rintro e w1 ⟨rfl, hb1⟩; have hbw : Below w.heap.size w _ := below_via hb1 hbw; have hX := hid ((hb1.block _ (cells_of hX.out).1).trans hX.out); obtain ⟨lx, cx⟩ := cells_of hX.out) | (go_at_call 17; with_reducible refine (c17.out _).mono ?_; rw [hc'.out]; rintro e w1 ⟨rfl, hb1⟩; have hbw : Below w.heap.size w _ := below_via hb1 hbw; have hX := hid ((hb1.block _ (cells_of hX.out).1).trans hX.out); obtain ⟨lx, cx⟩ := cells_of hX.out) | (go_at_call 40; with_reducible refine (c40.out _).mono ?_; rintro e w1 ⟨rfl, hb1⟩; have hbw : Below w.heap.size w _ := below_via hb1 hbw; have hX := hid ((hb1.block _ (cells_of hX.out).1).trans hX.out); obtain ⟨lx, cx⟩ := cells_of hX.out) | (go_at_call 40; with_reducible refine (c41.out _).mono ?_; rintro e w1 ⟨rfl, hb1⟩; have hbw : Below w.heap.size w _ := below_via hb1 hbw; have hX := hid ((hb1.block _ (cells_of hX.out).1).trans hX.out); obtain ⟨lx, cx⟩ := cells_of hX.out) | (go_at_call 17; with_reducible refine (c17x.out _).mono ?_; rw [hx'.out]; rintro e w1 ⟨rfl, hb1⟩; have hbw : Below w.heap.size w _ := below_via hb1 hbw; have hX := hid ((hb1.block _ (cells_of hX.out).1).trans hX.out); obtain ⟨lx, cx⟩ := cells_of hX.out) | (go_at_call 17; with_reducible refine (c17y.out _).mono ?_; rw [hy'.out]; rintro e w1 ⟨rfl, hb1⟩; have hbw : Below w.heap.size w _ := below_via hb1 hbw; have hX := hid ((hb1.block _ (cells_of hX.out).1).trans hX.out); obtain ⟨lx, cx⟩ := cells_of hX.out) | (go_at_call 14; with_reducible refine (c14.out _).mono ?_; rintro e w1 ⟨rfl, hb1⟩; have hbw : Below w.heap.size w _ := below_via hb1 hbw; have hX := hid ((hb1.block _ (cells_of hX.out).1).trans hX.out); obtain ⟨lx, cx⟩ := cells_of hX.out))
    go_ret
    exact ⟨rfl, hbw⟩
  · have hn2 : (n == 1) = false := by simpa using hn
    clear one
    go_enter Try.func9, Try.ntmps9
    go_wp2_with (first | (go_at_call 32; with_reducible refine (c32.out _).mono ?_; rw [hv'.out]; rintro e w1 ⟨rfl, hb1⟩; have hbw : Below w.heap.size w _ := below_via hb1 hbw; have hX := hid ((hb1.block _ (cells_of hX.out).1).trans hX.out); obtain ⟨lx, cx⟩ := cells_of hX.out) | (go_at_call 28; with_reducible refine (c28.out _).mono ?_; rw [hm'.out]; rintro e w1 ⟨rfl, hb1⟩; have hbw : Below w.heap.size w _ := below_via hb1 hbw; have hX := hid ((hb1.block _ (cells_of hX.out).1).trans hX.out); obtain ⟨lx, cx⟩ := cells_of hX.out) | (go_at_call 17; with_reducible refine (c17.out _).mono ?_; rw [hc'.out]; rintro e w1 ⟨rfl, hb1⟩; have hbw : Below w.heap.size w _ := below_via hb1 hbw; have hX := hid ((hb1.block _ (cells_of hX.out).1).trans hX.out); obtain ⟨lx, cx⟩ := cells_of hX.out) | (go_at_call 40; with_reducible refine (c40.out _).mono ?_; rintro e w1 ⟨rfl, hb1⟩; have hbw : Below w.heap.size w _ := below_via hb1 hbw; have hX := hid ((hb1.block _ (cells_of hX.out).1).trans hX.out); obtain ⟨lx, cx⟩ := cells_of hX.out) | (go_at_call 40; with_reducible refine (c41.out _).mono ?_; rintro e w1 ⟨rfl, hb1⟩; have hbw : Below w.heap.size w _ := below_via hb1 hbw; have hX := hid ((hb1.block _ (cells_of hX.out).1).trans hX.out); obtain ⟨lx, cx⟩ := cells_of hX.out) | (go_at_call 17; with_reducible refine (c17x.out _).mono ?_; rw [hx'.out]; rintro e w1 ⟨rfl, hb1⟩; have hbw : Below w.heap.size w _ := below_via hb1 hbw; have hX := hid ((hb1.block _ (cells_of hX.out).1).trans hX.out); obtain ⟨lx, cx⟩ := cells_of hX.out) | (go_at_call 17; with_reducible refine (c17y.out _).mono ?_; rw [hy'.out]; rintro e w1 ⟨rfl, hb1⟩; have hbw : Below w.heap.size w _ := below_via hb1 hbw; have hX := hid ((hb1.block _ (cells_of hX.out).1).trans hX.out); obtain ⟨lx, cx⟩ := cells_of hX.out) | (go_at_call 14; with_reducible refine (c14.out _).mono ?_; rintro e w1 ⟨rfl, hb1⟩; have hbw : Below w.heap.size w _ := below_via hb1 hbw; have hX := hid ((hb1.block _ (cells_of hX.out).1).trans hX.out); obtain ⟨lx, cx⟩ := cells_of hX.out))
    go_ret
    exact ⟨rfl, hbw⟩

end Go.Proofs.Ytkgdejhooghknaa
