/- The walks of the small functions of package rest. -/
import Derived.Test.YtkgdejhooghknaaRows
import Derived.Test.YtkgdejhooghknaaPure
import Derived.Test.YtkgdejhooghknaaKit
namespace Go.Proofs.Ytkgdejhooghknaa
open Go.RowKit Go.Lap

abbrev sval (s : St) : Value := .agg #[.int .i64 s.rider, .int .i64 s.run, .int .i64 s.before, .int .i64 s.hour, .int .i64 s.h0, .int .i64 s.h1]
abbrev rval (r : Rider) : Value := .agg #[.int .i64 r.out, .int .i64 r.total, .int .i64 r.run, .int .i64 r.off]
/-- The values that 'rules' returns. -/
abbrev ruleVals : List Value := [.iface 140 (.agg #[.func (.func 97) #[] #[]]), .iface 143 (.agg #[.func (.func 98) #[] #[]]), .iface 143 (.agg #[.func (.func 99) #[] #[]]), .iface 143 (.agg #[.func (.func 100) #[] #[]])]

/-- The cells of a rest that is looked at. -/
abbrev restCells (R : Rest) : Array Value := #[.int .i64 R.hours, .int .i64 R.r0.out, .int .i64 R.r0.total, .int .i64 R.r0.run, .int .i64 R.r0.off, .int .i64 R.r1.out, .int .i64 R.r1.total, .int .i64 R.r1.run, .int .i64 R.r1.off,
  .iface 140 (.agg #[.func (.func 97) #[] #[]]), .iface 143 (.agg #[.func (.func 98) #[] #[]]), .iface 143 (.agg #[.func (.func 99) #[] #[]]), .iface 143 (.agg #[.func (.func 100) #[] #[]])]

theorem hmf : ∀ (fn : Fn) (first cap : Array Value) (w : World), (Instr.makeFunc fn first cap).run Try.prog w = .ok (.func fn first cap) w := fun _ _ _ _ => rfl

set_option maxHeartbeats 400000 in
theorem within_any (n lo hi : Int) (w : World) :
    Calls Try.prog 46 #[.int .i64 n, .int .i64 lo, .int .i64 hi] w fun e w' => e = .returned (.bool (inB n lo hi)) ∧ w = w' := by
  by_cases h1 : lo ≤ n
  · go_enter Try.func46, Try.ntmps46
    go_wp2
    go_ret
    exact ⟨by simp [inB, h1], rfl⟩
  · go_enter Try.func46, Try.ntmps46
    go_wp2
    go_ret
    exact ⟨by have h2 : ¬ lo ≤ n := by omega
              simp [inB, h2], rfl⟩

set_option maxHeartbeats 400000 in
theorem rules_any (w : World) :
    Calls Try.prog 80 #[] w fun e w' => e = .returned (.agg ruleVals.toArray) ∧ Below w.heap.size w w' := by
  have hmf := hmf
  go_enter Try.func80, Try.ntmps80
  go_wp2
  exact bodyPost_ret (v := .agg ruleVals.toArray) (by simp [results, Try.results80, go_sem]) rfl ⟨rfl, (Below.refl _ _).alloc (Nat.le_refl _) _⟩

set_option maxHeartbeats 400000 in
theorem rules1_any (r : Rider) (w : World) :
    Calls Try.prog 97 #[rval r] w fun e w' => e = .returned (.int .i64 r.out) ∧ Below w.heap.size w w' := by
  go_enter Try.func97, Try.ntmps97
  go_wp2
  go_ret
  exact ⟨rfl, (Below.refl _ _).alloc (Nat.le_refl _) _⟩

set_option maxHeartbeats 400000 in
theorem again_any (s : St) (w : World) (h0 : 0 ≤ s.rider) (h1 : s.rider ≤ 1) :
    Calls Try.prog 101 #[sval s] w fun e w' => e = .returned (.bool s.again) ∧ Below w.heap.size w w' := by
  obtain ⟨rider, run, before, hour, x0, x1⟩ := s
  simp only at h0 h1
  have hr : rider = 0 ∨ rider = 1 := by omega
  clear h0 h1
  by_cases c1 : run = 1
  · subst c1
    by_cases c2 : 0 < before
    · rcases hr with rfl | rfl
      all_goals
        go_enter Try.func101, Try.ntmps101
        go_wp2
        go_ret
        exact ⟨by simp [St.again, St.own, c2], (Below.refl _ _).alloc (Nat.le_refl _) _⟩
    · have c2' : decide (0 < before) = false := by simpa using c2
      go_enter Try.func101, Try.ntmps101
      go_wp2
      go_ret
      exact ⟨by simp [St.again, c2'], (Below.refl _ _).alloc (Nat.le_refl _) _⟩
  · have c1' : (run == 1) = false := by simpa using c1
    have HC := hid c1
    clear c1 hr
    go_enter Try.func101, Try.ntmps101
    go_wp2
    go_ret
    exact ⟨by simp [St.again, HC.out], (Below.refl _ _).alloc (Nat.le_refl _) _⟩

set_option maxHeartbeats 400000 in
theorem next_any (s : St) (r : Int) (w : World) (hs : s.Ok) (hr0 : 0 ≤ r) (hr1 : r ≤ 1) (hh : s.hour < 16) :
    Calls Try.prog 51 #[sval s, .int .i64 r] w fun e w' => e = .returned (sval (s.next r)) ∧ Below w.heap.size w w' := by
  obtain ⟨h1, h2, h3, h4, h5, h6, h7, h8, h9, h10, h11, h12⟩ := hs
  obtain ⟨rider, run, before, hour, x0, x1⟩ := s
  simp only at h1 h2 h3 h4 h5 h6 h7 h8 h9 h10 h11 h12 hh
  have hr : r = 0 ∨ r = 1 := by omega
  clear hr0 hr1
  by_cases c : r = rider
  · subst c
    rcases hr with rfl | rfl
    all_goals
      go_enter Try.func51, Try.ntmps51
      go_wp2
      refine bodyPost_ret (v := sval (St.next ⟨_, run, before, hour, x0, x1⟩ _)) ?_ rfl ⟨rfl, ?_⟩
      · simp [results, Try.results51, go_sem, St.next]
      · exact (((Below.refl _ _).alloc (Nat.le_refl _) _).alloc (by simp) _)
  · rcases hr with rfl | rfl
    all_goals
      have c' : (_ == rider) = false := beq_eq_false_iff_ne.2 c
      have HC := hid c
      clear c
      go_enter Try.func51, Try.ntmps51
      go_wp2
      refine bodyPost_ret (v := sval (St.next ⟨rider, run, before, hour, x0, x1⟩ _)) ?_ rfl ⟨rfl, ?_⟩
      · have := HC.out
        simp [results, Try.results51, go_sem, St.next, this]
      · exact (((Below.refl _ _).alloc (Nat.le_refl _) _).alloc (by simp) _)

end Go.Proofs.Ytkgdejhooghknaa
