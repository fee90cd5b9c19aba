/- The walks of the rules of package rest. -/
import Derived.Test.YtkgdejhooghknaaA
namespace Go.Proofs.Ytkgdejhooghknaa
open Go.RowKit Go.Lap

set_option maxHeartbeats 400000 in
theorem rules2_any (r : Rider) (s : St) (w : World) (h0 : 0 ≤ s.rider) (h1 : s.rider ≤ 1) :
    Calls Try.prog 98 #[rval r, sval s] w fun e w' => e = .returned (.tuple #[.int .i64 s.own, .int .i64 r.total]) ∧ Below w.heap.size w w' := by
  obtain ⟨rider, run, before, hour, x0, x1⟩ := s
  simp only at h0 h1
  have hr : rider = 0 ∨ rider = 1 := by omega
  clear h0 h1
  rcases hr with rfl | rfl
  all_goals
    go_enter Try.func98, Try.ntmps98
    go_wp2
    go_quiet (fail)
    go_wp2
    go_ret2
    exact ⟨by simp [St.own], by (repeat (first | exact Below.refl _ _ | assumption | apply below_drewN | apply Below.drew | apply below_alloc | refine below_via (by assumption) ?_ | refine below_set ?_ _ (by simp <;> omega)))⟩

set_option maxHeartbeats 400000 in
theorem rules3_any (r : Rider) (s : St) (w : World) :
    Calls Try.prog 99 #[rval r, sval s] w fun e w' => e = .returned (.tuple #[.int .i64 s.run, .int .i64 r.run]) ∧ Below w.heap.size w w' := by
  go_enter Try.func99, Try.ntmps99
  go_wp2
  go_quiet (fail)
  go_wp2
  go_ret2
  exact ⟨rfl, by (repeat (first | exact Below.refl _ _ | assumption | apply below_drewN | apply Below.drew | apply below_alloc | refine below_via (by assumption) ?_ | refine below_set ?_ _ (by simp <;> omega)))⟩

set_option maxHeartbeats 400000 in
theorem rules4_any (r : Rider) (s : St) (w : World) (h0 : 0 ≤ s.rider) (h1 : s.rider ≤ 1) :
    Calls Try.prog 100 #[rval r, sval s] w fun e w' => e = .returned (.tuple (if s.again then #[.int .i64 r.off, .int .i64 s.before] else #[.int .i64 0, .int .i64 0])) ∧ Below w.heap.size w w' := by
  cases hA : s.again
  · have HA := hid hA
    clear hA
    go_enter Try.func100, Try.ntmps100
    go_wp2_with (go_at_call 101; refine (again_any _ _ h0 h1).mono ?_; rw [HA.out]; rintro e w' ⟨rfl, hb⟩; obtain ⟨hc, hf⟩ := bcell hb)
    go_ret2
    exact ⟨by simp, by (repeat (first | exact Below.refl _ _ | assumption | apply below_drewN | apply Below.drew | apply below_alloc | refine below_via (by assumption) ?_ | refine below_set ?_ _ (by simp <;> omega)))⟩
  · have HA := hid hA
    clear hA
    go_enter Try.func100, Try.ntmps100
    go_wp2_with (go_at_call 101; refine (again_any _ _ h0 h1).mono ?_; rw [HA.out]; rintro e w' ⟨rfl, hb⟩; obtain ⟨hc, hf⟩ := bcell hb)
    go_quiet (fail)
    go_wp2
    go_ret2
    exact ⟨by simp, by (repeat (first | exact Below.refl _ _ | assumption | apply below_drewN | apply Below.drew | apply below_alloc | refine below_via (by assumption) ?_ | refine below_set ?_ _ (by simp <;> omega)))⟩

set_option maxHeartbeats 400000 in
theorem hours_any (r : Rider) (s : St) (w : World) (h0 : 1 ≤ s.hour) (h1 : s.hour ≤ 16) (_h2 : 0 ≤ r.out) (_h3 : r.out ≤ 65535) :
    Calls Try.prog 118 #[.agg #[.func (.func 97) #[] #[]], rval r, sval s] w fun e w' => e = .returned (.bool (hasBit r.out (s.hour - 1))) ∧ Below w.heap.size w w' := by
  have e1 : IntKind.i64.wrap (s.hour - 1) = s.hour - 1 := IntWalk.i64_in _ (by omega)
  have e2 := shr_run (P := Try.prog) r.out (s.hour - 1) (by omega) (by omega)
  clear h0 h1
  go_enter Try.func118, Try.ntmps118
  go_wp2
  refine wp_region_later (by kernel_rfl) (by kernel_rfl) ?_
  intro hx
  repeat (any_goals (first | go_big_quiet_step ((go_at_call 97; exact Calls.later (rules1_any _ _))) | quiet_step ((go_at_call 97; exact Calls.later (rules1_any _ _)))))
  refine wpQuiet_nil ?_
  rintro _ ⟨⟨w1, hb⟩, rfl⟩
  clear hx
  go_wp2
  go_ret
  exact ⟨by simp [hasBit], by (repeat (first | exact Below.refl _ _ | assumption | apply below_drewN | apply Below.drew | apply below_alloc | refine below_via (by assumption) ?_ | refine below_set ?_ _ (by simp <;> omega)))⟩

set_option maxHeartbeats 400000 in
theorem most98 (r : Rider) (s : St) (w : World) (h0 : 0 ≤ s.rider) (h1 : s.rider ≤ 1) :
    Calls Try.prog 119 #[.agg #[.func (.func 98) #[] #[]], rval r, sval s] w fun e w' => e = .returned (.bool (decide (r.total < s.own))) ∧ Below w.heap.size w w' := by
  go_enter Try.func119, Try.ntmps119
  go_wp2_with (go_at_call 98; refine (rules2_any _ _ _ h0 h1).mono ?_; rintro e w' ⟨rfl, hb⟩)
  go_ret
  exact ⟨rfl, by (repeat (first | exact Below.refl _ _ | assumption | apply below_drewN | apply Below.drew | apply below_alloc | refine below_via (by assumption) ?_ | refine below_set ?_ _ (by simp <;> omega)))⟩

set_option maxHeartbeats 400000 in
theorem most99 (r : Rider) (s : St) (w : World) :
    Calls Try.prog 119 #[.agg #[.func (.func 99) #[] #[]], rval r, sval s] w fun e w' => e = .returned (.bool (decide (r.run < s.run))) ∧ Below w.heap.size w w' := by
  go_enter Try.func119, Try.ntmps119
  go_wp2_with (go_at_call 99; refine (rules3_any _ _ _).mono ?_; rintro e w' ⟨rfl, hb⟩)
  go_ret
  exact ⟨rfl, by (repeat (first | exact Below.refl _ _ | assumption | apply below_drewN | apply Below.drew | apply below_alloc | refine below_via (by assumption) ?_ | refine below_set ?_ _ (by simp <;> omega)))⟩

set_option maxHeartbeats 400000 in
theorem most100 (r : Rider) (s : St) (w : World) (h0 : 0 ≤ s.rider) (h1 : s.rider ≤ 1) :
    Calls Try.prog 119 #[.agg #[.func (.func 100) #[] #[]], rval r, sval s] w fun e w' => e = .returned (.bool (s.again && decide (s.before < r.off))) ∧ Below w.heap.size w w' := by
  cases hA : s.again
  all_goals
    have HA := hid hA
    clear hA
    go_enter Try.func119, Try.ntmps119
    go_wp2_with (go_at_call 100; refine (rules4_any _ _ _ h0 h1).mono ?_; rw [HA.out]; rintro e w' ⟨rfl, hb⟩; simp only [if_true, Bool.false_eq_true, if_false])
    go_ret
    exact ⟨by simp, by (repeat (first | exact Below.refl _ _ | assumption | apply below_drewN | apply Below.drew | apply below_alloc | refine below_via (by assumption) ?_ | refine below_set ?_ _ (by simp <;> omega)))⟩

end Go.Proofs.Ytkgdejhooghknaa
