/- The walk of bits.OnesCount at small sets. -/
import Derived.Test.YtcgkglonnmkfcaaG
namespace Go.Proofs.Ytcgkglonnmkfcaa
open Go.RowKit Go.Lap Go.Shelf

/-- How many are in a set. -/
def sizeN : Nat → Nat → Nat
  | 0, _ => 0
  | f + 1, x => x % 2 + sizeN f (x / 2)

set_option maxRecDepth 100000 in
set_option maxHeartbeats 4000000 in
theorem ones64_any (x : Nat) (hx : x < 64) (w : World) : Calls Try.prog 89 #[.int .u64 x] w fun e w' => e = .returned (.int .i64 (sizeN 6 x : Nat)) ∧ Below w.heap.size w w' := by
  go_enter Try.func89, Try.ntmps89
  go_wp2
  go_ret
  refine ⟨ret_int ?_, Below.refl _ _⟩
  match x, hx with
  | 0, _ => decide +kernel
  | 1, _ => decide +kernel
  | 2, _ => decide +kernel
  | 3, _ => decide +kernel
  | 4, _ => decide +kernel
  | 5, _ => decide +kernel
  | 6, _ => decide +kernel
  | 7, _ => decide +kernel
  | 8, _ => decide +kernel
  | 9, _ => decide +kernel
  | 10, _ => decide +kernel
  | 11, _ => decide +kernel
  | 12, _ => decide +kernel
  | 13, _ => decide +kernel
  | 14, _ => decide +kernel
  | 15, _ => decide +kernel
  | 16, _ => decide +kernel
  | 17, _ => decide +kernel
  | 18, _ => decide +kernel
  | 19, _ => decide +kernel
  | 20, _ => decide +kernel
  | 21, _ => decide +kernel
  | 22, _ => decide +kernel
  | 23, _ => decide +kernel
  | 24, _ => decide +kernel
  | 25, _ => decide +kernel
  | 26, _ => decide +kernel
  | 27, _ => decide +kernel
  | 28, _ => decide +kernel
  | 29, _ => decide +kernel
  | 30, _ => decide +kernel
  | 31, _ => decide +kernel
  | 32, _ => decide +kernel
  | 33, _ => decide +kernel
  | 34, _ => decide +kernel
  | 35, _ => decide +kernel
  | 36, _ => decide +kernel
  | 37, _ => decide +kernel
  | 38, _ => decide +kernel
  | 39, _ => decide +kernel
  | 40, _ => decide +kernel
  | 41, _ => decide +kernel
  | 42, _ => decide +kernel
  | 43, _ => decide +kernel
  | 44, _ => decide +kernel
  | 45, _ => decide +kernel
  | 46, _ => decide +kernel
  | 47, _ => decide +kernel
  | 48, _ => decide +kernel
  | 49, _ => decide +kernel
  | 50, _ => decide +kernel
  | 51, _ => decide +kernel
  | 52, _ => decide +kernel
  | 53, _ => decide +kernel
  | 54, _ => decide +kernel
  | 55, _ => decide +kernel
  | 56, _ => decide +kernel
  | 57, _ => decide +kernel
  | 58, _ => decide +kernel
  | 59, _ => decide +kernel
  | 60, _ => decide +kernel
  | 61, _ => decide +kernel
  | 62, _ => decide +kernel
  | 63, _ => decide +kernel
  | n + 64, h => omega

set_option maxHeartbeats 1000000 in
theorem ones_any (x : Nat) (hx : x < 64) (w : World) : Calls Try.prog 74 #[.int .u64 x] w fun e w' => e = .returned (.int .i64 (sizeN 6 x : Nat)) ∧ Below w.heap.size w w' := by
  go_enter Try.func74, Try.ntmps74
  go_wp2_with (go_at_call 89; with_reducible refine (ones64_any x hx _).mono ?_; rintro e w1 ⟨rfl, hb1⟩)
  go_ret
  exact ⟨rfl, hb1⟩

end Go.Proofs.Ytcgkglonnmkfcaa
