/- The walk of 'RestReads'. -/
import Derived.Test.YtkgdejhooghknaaMB
import Derived.ChangeSlices
namespace Go.Proofs.Ytkgdejhooghknaa
open Go.RowKit Go.Lap Go.Shelf

set_option maxRecDepth 100000 in
set_option maxHeartbeats 4000000 in
theorem restReads_any (R : Rest) (a : Option Addr) (cap : Nat) (xs : List Int) (hm : xs.length ≤ maxLen) (w : World) (hx : IntsAt w (.slice a xs.length cap) xs) :
    Calls Try.prog 3 #[restV R, .slice a xs.length cap] w fun e w' => e = .returned (.bool true) ∧ Below w.heap.size w w' := by
  unfold maxLen at hm
  have hk : KeepP w R (.slice a xs.length cap) xs (w.alloc (.cells #[.int .i64 R.hours, .int .i64 R.r0.out, .int .i64 R.r0.total, .int .i64 R.r0.run, .int .i64 R.r0.off, .int .i64 R.r1.out, .int .i64 R.r1.total, .int .i64 R.r1.run, .int .i64 R.r1.off] 26)) := ⟨KeepR.start w R, hx.below (below_alloc (Below.refl _ _) _)⟩
  have c14 := hid awake_any
  clear hx
  by_cases hlt : 40 < xs.length
  · have hlt2 : (40 : Int) < (xs.length : Int) := by omega
    go_enter Try.func3, Try.ntmps3
    go_wp2_with (first | (go_at_call 14; with_reducible refine (c14.out _).mono ?_; rintro e w1 ⟨rfl, hb1⟩; have hk := hk.below hb1; obtain ⟨lx, cx⟩ := cells_of hk.r.x))
    go_ret
    exact ⟨rfl, hk.r.bel⟩
  · have hlt2 : decide ((40 : Int) < (xs.length : Int)) = false := by simp; omega
    have c13 := hid (fun w => long_any R 11 w)
    have hl : xs.length ≤ 40 := by omega
    have c15 := hid (fun w h => Check_any R (.slice a xs.length cap) xs (by omega) w h)
    have c16 := hid (fun w h => refCheck_any R (.slice a xs.length cap) xs hl w h)
    have c17 := hid (fun w => Count_any R w)
    have c18 := hid (fun w => refCount_any R w)
    have c19 := hid (fun w => Until_any R w)
    have c20 := hid (fun w => refUntil_any R w)
    generalize checkOf R xs = c at *
    generalize countR R = d at *
    generalize untilR R = u at *
    obtain ⟨c0, c1, c2⟩ := c
    obtain ⟨d0, d1⟩ := d
    obtain ⟨u0, u1⟩ := u
    cases hb : (decide (11 < R.hours) && R.valid)
    · rw [hb] at c13
      clear hb hlt
      go_enter Try.func3, Try.ntmps3
      go_wp2_with (first | (go_at_call 13; with_reducible refine (c13.out _).mono ?_; rintro e w1 ⟨rfl, hb1⟩; have hk := hk.below hb1; obtain ⟨lx, cx⟩ := cells_of hk.r.x) | (go_at_call 15; with_reducible refine (c15.out _ hk.p).mono ?_; rintro e w1 ⟨rfl, hb1⟩; have hk := hk.below hb1; obtain ⟨lx, cx⟩ := cells_of hk.r.x) | (go_at_call 16; with_reducible refine (c16.out _ hk.p).mono ?_; rintro e w1 ⟨rfl, hb1⟩; have hk := hk.below hb1; obtain ⟨lx, cx⟩ := cells_of hk.r.x) | (go_at_call 17; with_reducible refine (c17.out _).mono ?_; rintro e w1 ⟨rfl, hb1⟩; have hk := hk.below hb1; obtain ⟨lx, cx⟩ := cells_of hk.r.x) | (go_at_call 18; with_reducible refine (c18.out _).mono ?_; rintro e w1 ⟨rfl, hb1⟩; have hk := hk.below hb1; obtain ⟨lx, cx⟩ := cells_of hk.r.x) | (go_at_call 19; with_reducible refine (c19.out _).mono ?_; rintro e w1 ⟨rfl, hb1⟩; have hk := hk.below hb1; obtain ⟨lx, cx⟩ := cells_of hk.r.x) | (go_at_call 20; with_reducible refine (c20.out _).mono ?_; rintro e w1 ⟨rfl, hb1⟩; have hk := hk.below hb1; obtain ⟨lx, cx⟩ := cells_of hk.r.x) | (go_at_call 14; with_reducible refine (c14.out _).mono ?_; rintro e w1 ⟨rfl, hb1⟩; have hk := hk.below hb1; obtain ⟨lx, cx⟩ := cells_of hk.r.x))
      go_ret
      exact ⟨rfl, hk.r.bel⟩
    · rw [hb] at c13
      clear hb hlt
      go_enter Try.func3, Try.ntmps3
      go_wp2_with (first | (go_at_call 13; with_reducible refine (c13.out _).mono ?_; rintro e w1 ⟨rfl, hb1⟩; have hk := hk.below hb1; obtain ⟨lx, cx⟩ := cells_of hk.r.x) | (go_at_call 14; with_reducible refine (c14.out _).mono ?_; rintro e w1 ⟨rfl, hb1⟩; have hk := hk.below hb1; obtain ⟨lx, cx⟩ := cells_of hk.r.x))
      go_ret
      exact ⟨rfl, hk.r.bel⟩

end Go.Proofs.Ytkgdejhooghknaa
