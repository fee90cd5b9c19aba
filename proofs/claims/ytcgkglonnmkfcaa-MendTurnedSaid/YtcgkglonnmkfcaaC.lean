/- The walks of 'must', 'told' and 'open' of package mend. -/
import Derived.Test.YtcgkglonnmkfcaaA
namespace Go.Proofs.Ytcgkglonnmkfcaa
open Go.RowKit Go.Lap

/-- What a panic of the package tells. -/
abbrev failV (n : Int) : Value := .iface 107 (.agg #[.int .i64 n])

set_option maxHeartbeats 400000 in
theorem must_yes (n : Int) (w : World) :
    Calls Try.prog 52 #[.bool true, .int .i64 n] w fun e w' => e = .returned (.tuple #[]) ∧ w = w' := by
  go_enter Try.func52, Try.ntmps52
  go_wp2
  go_end0
  exact ⟨rfl, rfl⟩

set_option maxHeartbeats 400000 in
theorem must_no (n : Int) (w : World) :
    Calls Try.prog 52 #[.bool false, .int .i64 n] w fun e w' => e = .panicked [{ v := failV n, recovered := false }] ∧ w = w' := by
  go_enter Try.func52, Try.ntmps52
  go_wp2
  exact ⟨rfl, rfl, rfl⟩

theorem must_calls {c : Bool} {n : Int} {w : World} {R : Ending → World → Prop} (h1 : c = true → R (.returned (.tuple #[])) w) (h2 : c = false → R (.panicked [{ v := failV n, recovered := false }]) w) :
    Calls Try.prog 52 #[.bool c, .int .i64 n] w R := by
  cases c
  · exact (must_no n w).mono fun e w' ⟨he, hw⟩ => by subst he; subst hw; exact h2 rfl
  · exact (must_yes n w).mono fun e w' ⟨he, hw⟩ => by subst he; subst hw; exact h1 rfl

theorem assert_fail (n : Int) (w : World) : (Instr.typeAssert (failV n) 20 107 true).run Try.prog w = .ok (.tuple #[.agg #[.int .i64 n], .bool true]) w := by kernel_rfl

set_option maxRecDepth 100000 in
set_option maxHeartbeats 400000 in
theorem told_panicking (b : Nat) (n x : Int) (w : World) (hp : b < w.heap.size) (hc : w.cell? ⟨b, 0, none⟩ = some (.int .i64 x)) (hz : w.frozen? ⟨b, 0, none⟩ = false) :
    CallsD Try.prog 46 #[.pointer (some ⟨b, 0, none⟩)] (.panicking [{ v := failV n, recovered := false }]) w fun e u' w' =>
      e = .returned (.tuple #[]) ∧ u' = .panicking [{ v := failV n, recovered := true }] ∧ w' = (w.setCell ⟨b, 0, none⟩ (.int .i64 n)).alloc (.cells #[.int .i64 n] 107) := by
  have ha := assert_fail n
  have hne : ¬ b = w.heap.size := by omega
  refine callsD_of_wpS Try.func46 rfl fun c₀ cs hu => ?_
  simp only [Try.ntmps46, List.size_toArray, List.length_cons, List.length_nil, Nat.reduceAdd, Nat.reduceSub, Array.replicate_succ, Array.replicate_zero, List.push_toArray, List.append_toArray, List.nil_append, List.cons_append]
  apply wpS_seq
  apply wpS_region
  simp [wpOpsS, go_sem, recoverD, hu, Exit.thenS]
  apply wpS_of_wp
  go_wp2
  cases c₀
  simp_all [bodyPostS, results, Try.results46]

set_option maxHeartbeats 400000 in
theorem told_idle (p : Addr) (w : World) :
    CallsD Try.prog 46 #[.pointer (some p)] .returning w fun e u' w' => e = .returned (.tuple #[]) ∧ u' = .returning ∧ w' = w := by
  refine callsD_of_wpS Try.func46 rfl fun c₀ cs hu => ?_
  simp only [Try.ntmps46, List.size_toArray, List.length_cons, List.length_nil, Nat.reduceAdd, Nat.reduceSub, Array.replicate_succ, Array.replicate_zero, List.push_toArray, List.append_toArray, List.nil_append, List.cons_append]
  apply wpS_seq
  apply wpS_region
  simp [wpOpsS, go_sem, recoverD, hu, Exit.thenS]
  apply wpS_of_wp
  go_wp2
  cases c₀
  simp_all [bodyPostS, results, Try.results46]

end Go.Proofs.Ytcgkglonnmkfcaa
