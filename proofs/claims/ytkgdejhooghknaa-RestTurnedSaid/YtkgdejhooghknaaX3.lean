/- 'RestTurned' returns true. -/
import Derived.Test.YtkgdejhooghknaaX1
import Derived.Test.YtkgdejhooghknaaX2
namespace Go.Proofs.Ytkgdejhooghknaa
open Go.RowKit Go.Lap Go.Shelf

set_option maxRecDepth 100000 in
set_option maxHeartbeats 2000000 in
theorem restTurned_bad (R : Rest) (z t : Int) (hv : R.valid = false) (w : World) : Calls Try.prog 12 #[restV R, .int .u16 z, .int .u8 t] w fun e w' => e = .returned (.bool true) ∧ Below w.heap.size w w' := by
  have c32 := hid (fun w => valid_as hv w)
  have c14 := hid awake_any
  clear hv
  have hk := KeepR.start w R
  go_enter Try.func12, Try.ntmps12
  go_wp2_with (first | (go_at_call 32; with_reducible refine (c32.out _).mono ?_; rintro e w1 ⟨rfl, hb1⟩; have hk := hk.below hb1; obtain ⟨lx, cx⟩ := cells_of hk.x) | (go_at_call 14; with_reducible refine (c14.out _).mono ?_; rintro e w1 ⟨rfl, hb1⟩; have hk := hk.below hb1; obtain ⟨lx, cx⟩ := cells_of hk.x))
  go_ret
  exact ⟨rfl, hk.bel⟩

theorem restTurned_any (R : Rest) (z t : Int) (hz0 : 0 ≤ z) (_hz1 : z ≤ 65535) (ht0 : 0 ≤ t) (ht1 : t ≤ 255) (w : World) : Calls Try.prog 12 #[restV R, .int .u16 z, .int .u8 t] w fun e w' => e = .returned (.bool true) ∧ Below w.heap.size w w' := by
  cases hv : R.valid
  · exact restTurned_bad R z t hv w
  · have hvs : R.swap.valid = true := by rw [swap_valid]; exact hv
    have hh := Rest.valid_hours hv
    obtain ⟨a, ha, ha2⟩ := swap_count hv
    obtain ⟨i, e2, q, q2, hi, hi2⟩ := swap_plan hv (swap_even R)
    obtain ⟨n0, n1, e3, hn, hn2⟩ := swap_hours hv
    obtain ⟨s, u, e4, hs, hs2⟩ := swap_must hv
    have hck := check_swap (R := R) (p := bitsL R.hours.toNat z) bitsL_mem
    obtain ⟨k1, k2, k3, hk1⟩ : ∃ k1 k2 k3, checkOf R (bitsL R.hours.toNat z) = (k1, k2, k3) := ⟨_, _, _, rfl⟩
    have hm0 := Int.emod_nonneg t (show R.hours + 1 ≠ 0 by omega)
    have hm1 := Int.emod_lt_of_pos t (show 0 < R.hours + 1 by omega)
    have hr : k3 = 4 → rightB (firstR R (t % (R.hours + 1))) ((bitsL R.hours.toNat z).take (t % (R.hours + 1)).toNat) = true := fun h =>
      right_first hv (bits_right hv (by unfold rightB; rw [hk1]; simpa using h)) hm0 (by omega)
    rcases told_plan hv changes_low with ⟨hne, hc⟩ | ⟨hne, c, p, hc, hp, _⟩
    · have hc2 : planR R.swap changesG = (0, [], 4) := by
        obtain ⟨b, e, p, p2, h1, h2⟩ := swap_plan hv (swap_changes R)
        rcases told_plan hvs changes_low with ⟨_, h⟩ | ⟨_, c, p, h, _⟩
        · exact h
        · rw [hc] at h1
          rw [h] at h2
          simp only [Prod.mk.injEq] at h1 h2
          omega
      exact restTurned_none R z t hz0 ht0 ht1 hv a i n0 n1 s u q q2 e2 e3 e4 ha ha2 hc hc2 hi hi2 hn hn2 hs hs2 _ rfl k1 k2 k3 hk1 (hck.trans hk1) hr w
    · obtain ⟨b, e, p1, p2, h1, h2⟩ := swap_plan hv (swap_changes R)
      rw [hc] at h1
      simp only [Prod.mk.injEq] at h1
      obtain ⟨rfl, rfl, rfl⟩ := h1
      exact restTurned_some R z t hz0 ht0 ht1 hv a _ i n0 n1 s u _ p2 q q2 e2 e3 e4 ha ha2 hc h2 hi hi2 hn hn2 hs hs2 (mem_plans hp).1 _ rfl k1 k2 k3 hk1 (hck.trans hk1) hr w

end Go.Proofs.Ytkgdejhooghknaa
