/- The walk of 'out' of the law. -/
import Derived.Test.YtkgdejhooghknaaN4
import Derived.Test.YtkgdejhooghknaaP2
namespace Go.Proofs.Ytkgdejhooghknaa
open Go.RowKit Go.Lap Go.Shelf

theorem orB_eq {x h : Int} (h0 : 0 ≤ x) (h1 : x ≤ 65535) (h2 : 0 ≤ h) (h3 : h ≤ 15) : bits .or .i64 x (wrap64 (2 ^ h.toNat)) = orB x h := by
  obtain ⟨e, hp⟩ := wrap_pow h2 h3
  obtain ⟨n, rfl⟩ : ∃ n : Nat, x = n := ⟨x.toNat, by omega⟩
  rw [e, bor_nat (by omega) hp, orB, Int.toNat_natCast]

set_option maxHeartbeats 1000000 in
theorem out_any (R : Rest) (i h : Int) (hi : i = 0 ∨ i = 1) (h0 : 0 ≤ h) (h1 : h ≤ 15) (hr0 : R.r0.Ok) (hr1 : R.r1.Ok) (w : World) :
    Calls Try.prog 40 #[restV R, .int .i64 i, .int .i64 h] w fun e w' => e = .returned (restV (outR R i h)) ∧ Below w.heap.size w w' := by
  rcases hi with rfl | rfl
  · have ho := orB_eq hr0.out0 hr0.out1 h0 h1
    go_enter Try.func40, Try.ntmps40
    go_wp2
    go_region
    all_goals
      go_wp2
      refine bodyPost_ret (v := restV (outR R 0 h)) (by simp [results, Try.results40, go_sem, outR]) rfl ⟨rfl, ?_⟩
      repeat (first | exact Below.refl _ _ | refine Below.drew ?_ | refine below_set ?_ _ (by simp) | refine below_alloc ?_ _)
  · have ho := orB_eq hr1.out0 hr1.out1 h0 h1
    go_enter Try.func40, Try.ntmps40
    go_wp2
    go_region
    all_goals
      go_wp2
      refine bodyPost_ret (v := restV (outR R 1 h)) (by simp [results, Try.results40, go_sem, outR]) rfl ⟨rfl, ?_⟩
      repeat (first | exact Below.refl _ _ | refine Below.drew ?_ | refine below_set ?_ _ (by simp) | refine below_alloc ?_ _)

end Go.Proofs.Ytkgdejhooghknaa
