/- The walk of 'told' of package mend, beside a range over a function. -/
import Derived.Test.YtcgkglonnmkfcaaG
import Derived.RecoverIn
import Derived.TacticsInMore
namespace Go.Proofs.Ytcgkglonnmkfcaa
open Go.RowKit Go.Lap

set_option maxHeartbeats 400000 in
theorem told_idle_in (n : Nat) (p : Addr) (w : World) :
    CallsDIn Fence.wide n Try.prog 46 #[.pointer (some p)] .returning w fun e u' w' => e = .returned (.tuple #[]) ∧ u' = .returning ∧ w' = w := by
  refine callsDIn_of_wpSIn Try.func46 rfl trivial fun c₀ cs hu => ?_
  simp only [Try.ntmps46, List.size_toArray, List.length_cons, List.length_nil, Nat.reduceAdd, Nat.reduceSub, Array.replicate_succ, Array.replicate_zero, List.push_toArray, List.append_toArray, List.nil_append, List.cons_append]
  apply wpSIn_seq
  apply wpSIn_region
  simp [wpOpsSIn, go_sem, recoverD, hu, Exit.thenS]
  refine wpSIn_of_wpIn rfl ?_
  gi_wp2
  cases c₀
  simp_all [bodyPostS, results, Try.results46]

set_option maxRecDepth 100000 in
set_option maxHeartbeats 400000 in
theorem told_panicking_in (k : Nat) (b : Nat) (n x : Int) (w : World) (hp : b < w.heap.size) (hc : w.cell? ⟨b, 0, none⟩ = some (.int .i64 x)) (hz : w.frozen? ⟨b, 0, none⟩ = false) :
    CallsDIn Fence.wide k Try.prog 46 #[.pointer (some ⟨b, 0, none⟩)] (.panicking [{ v := failV n, recovered := false }]) w fun e u' w' =>
      e = .returned (.tuple #[]) ∧ u' = .panicking [{ v := failV n, recovered := true }] ∧ w' = (w.setCell ⟨b, 0, none⟩ (.int .i64 n)).alloc (.cells #[.int .i64 n] 107) := by
  have ha := assert_fail n
  have hne : ¬ b = w.heap.size := by omega
  refine callsDIn_of_wpSIn Try.func46 rfl trivial fun c₀ cs hu => ?_
  simp only [Try.ntmps46, List.size_toArray, List.length_cons, List.length_nil, Nat.reduceAdd, Nat.reduceSub, Array.replicate_succ, Array.replicate_zero, List.push_toArray, List.append_toArray, List.nil_append, List.cons_append]
  apply wpSIn_seq
  apply wpSIn_region
  simp [wpOpsSIn, go_sem, recoverD, hu, Exit.thenS]
  refine wpSIn_of_wpIn rfl ?_
  gi_wp2
  cases c₀
  simp_all [bodyPostS, results, Try.results46]

/-- The deferred call behind a function whose body holds a range over a function. -/
theorem leaves_told {fn : Func} {tmps : Array Value} {R : Ending → World → Prop} {n b : Nat} {u : FrameMode} {w : World} (hn : 1 ≤ n) (hu : u ≠ .run)
    (h : CallsDIn Fence.wide (n - 1) Try.prog 46 #[.pointer (some ⟨b, 0, none⟩)] u w fun
      | .returned _, u', w' => LeavesInM Fence.wide n Try.prog fn tmps R [] (settle u') w'
      | .panicked chain, u', w' => LeavesInM Fence.wide n Try.prog fn tmps R [] (raised u' chain) w'
      | .outgrown, _, w' => R .outgrown w') : LeavesInM Fence.wide n Try.prog fn tmps R [{ target := .fn (.func 46) #[], args := #[.pointer (some ⟨b, 0, none⟩)] }] u w :=
  ⟨hu, .inr ⟨fun _ => hn, .func 46, #[], 46, #[.pointer (some ⟨b, 0, none⟩)], rfl, by simp [go_sem], fun _ _ => trivial, h⟩⟩

end Go.Proofs.Ytcgkglonnmkfcaa
