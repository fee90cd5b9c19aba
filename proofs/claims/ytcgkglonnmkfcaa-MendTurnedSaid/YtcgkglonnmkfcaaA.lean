/- The walks of the small functions of package mend. -/
import Derived.Test.YtcgkglonnmkfcaaRows
import Derived.Test.YtcgkglonnmkfcaaGP
import Derived.Test.YtcgkglonnmkfcaaGK
namespace Go.Proofs.Ytcgkglonnmkfcaa
open Go.RowKit Go.Lap

theorem hmf : ∀ (fn : Fn) (first cap : Array Value) (w : World), (Instr.makeFunc fn first cap).run Try.prog w = .ok (.func fn first cap) w := fun _ _ _ _ => rfl

set_option maxHeartbeats 400000 in
theorem within_any (n lo hi : Int) (w : World) :
    Calls Try.prog 76 #[.int .i64 n, .int .i64 lo, .int .i64 hi] w fun e w' => e = .returned (.bool (inB n lo hi)) ∧ w = w' := by
  by_cases h1 : lo ≤ n
  · go_enter Try.func76, Try.ntmps76
    go_wp2
    go_ret
    exact ⟨by simp [inB, h1], rfl⟩
  · go_enter Try.func76, Try.ntmps76
    go_wp2
    go_ret
    exact ⟨by have h2 : ¬ lo ≤ n := by omega
              simp [inB, h2], rfl⟩

end Go.Proofs.Ytcgkglonnmkfcaa
