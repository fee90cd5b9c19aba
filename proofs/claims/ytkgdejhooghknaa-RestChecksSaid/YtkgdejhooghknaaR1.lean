/- The walk of 'first' of the law. -/
import Derived.Test.YtkgdejhooghknaaN4
import Derived.Test.YtkgdejhooghknaaP2
import Derived.Test.YtkgdejhooghknaaP3
namespace Go.Proofs.Ytkgdejhooghknaa
open Go.RowKit Go.Lap Go.Shelf

theorem firstB_eq {x n : Int} (h0 : 0 ≤ x) (h1 : x ≤ 65535) (h2 : 0 ≤ n) (h3 : n ≤ 16) : bits .and .i64 x (2 ^ n.toNat - 1) = firstB x n := by
  obtain ⟨m, rfl⟩ : ∃ m : Nat, x = m := ⟨x.toNat, by omega⟩
  have hp : 0 < 2 ^ n.toNat := Nat.pow_pos (by decide)
  have hp2 : 2 ^ n.toNat ≤ 2 ^ 16 := Nat.pow_le_pow_right (by decide) (by omega)
  have e : ((2 : Int) ^ n.toNat - 1) = ((2 ^ n.toNat - 1 : Nat) : Int) := by
    have e : ((2 : Int) ^ n.toNat) = ((2 ^ n.toNat : Nat) : Int) := by simp
    rw [e]; omega
  rw [e, band_nat (by omega) (by omega), firstB, Int.toNat_natCast]

set_option maxHeartbeats 2000000 in
theorem first_any (R : Rest) (n : Int) (h0 : 0 ≤ n) (h1 : n ≤ 16) (hr0 : R.r0.Ok) (hr1 : R.r1.Ok) (w : World) :
    Calls Try.prog 41 #[restV R, .int .i64 n] w fun e w' => e = .returned (restV (firstR R n)) ∧ Below w.heap.size w w' := by
  have ho0 := firstB_eq hr0.out0 hr0.out1 h0 h1
  have ho1 := firstB_eq hr1.out0 hr1.out1 h0 h1
  have hp : (2 : Int) ^ n.toNat ≤ 2 ^ 16 := two_pow_le (by omega)
  have hp0 : (0 : Int) < 2 ^ n.toNat := Int.pow_pos (by decide)
  obtain ⟨E, hE⟩ : ∃ E : Int, E = 2 ^ n.toNat := ⟨_, rfl⟩
  have hEa : 0 < E ∧ E ≤ 65536 := by rw [hE]; exact ⟨hp0, hp⟩
  have hw2 : IntKind.i64.wrap (E - 1) = E - 1 := IntWalk.i64_in _ (by omega)
  have hw3 : wrap64 (E - 1) = E - 1 := IntWalk.wrap64_in _ (by omega)
  have hsh : wrap64 (2 ^ n.toNat) = E := by rw [← hE]; exact IntWalk.wrap64_in _ (by omega)
  rw [← hE] at ho0 ho1
  have hE' := hid hE
  clear hp hp0 hEa hE
  go_enter Try.func41, Try.ntmps41
  go_wp2
  refine wp_loop_rounds 3 ?_
  rw [rounds_succ]
  go_wp2
  go_region
  go_wp2
  rw [rounds_succ]
  go_wp2
  go_region
  go_wp2
  rw [rounds_succ]
  go_wp2
  refine bodyPost_ret (v := restV (firstR R n)) (by simp [results, Try.results41, go_sem, firstR]) rfl ⟨rfl, ?_⟩
  repeat (first | exact Below.refl _ _ | refine Below.drew ?_ | refine below_set ?_ _ (by simp) | refine below_alloc ?_ _)

end Go.Proofs.Ytkgdejhooghknaa
