/- The walks of the goals at pairs. -/
import Derived.Test.YtkgdejhooghknaaK1
import Derived.Test.YtkgdejhooghknaaK2
import Derived.Test.YtkgdejhooghknaaG
import Derived.Laws.BitsAllLaws
namespace Go.Proofs.Ytkgdejhooghknaa
open Go.RowKit Go.Lap Go.Shelf

set_option maxHeartbeats 1000000 in
theorem hours1_any (rd : Nat) (r : Int) (w : World) (hr : w.heap[rd]? = some (.cells #[.int .i64 r] 3 (0, 0))) : Calls Try.prog 67 #[.pointer (some ⟨rd, 0, none⟩)] w fun e w' => e = .returned (.bool (inB r 0 1)) ∧ Below w.heap.size w w' := by
  obtain ⟨l, c⟩ := cells_of hr
  go_enter Try.func67, Try.ntmps67
  go_wp2_with (go_at_call 46; refine (within_any _ _ _ _).mono ?_; rintro e w' ⟨rfl, rfl⟩)
  go_ret
  exact ⟨rfl, Below.refl _ _⟩

set_option maxHeartbeats 1000000 in
theorem hours2_any (rd : Nat) (r : Int) (h0 : 0 ≤ r) (h1 : r ≤ 1) (s : St) (w : World) (hr : w.heap[rd]? = some (.cells #[.int .i64 r] 3 (0, 0))) :
    Calls Try.prog 69 #[sval s, .pointer (some ⟨rd, 0, none⟩)] w fun e w' => e = .returned (pV ((spanG r).fin s)) ∧ Below w.heap.size w w' := by
  obtain ⟨l, c⟩ := cells_of hr
  have l1 : rd < w.heap.size + 1 := by omega
  obtain rfl | rfl : r = 0 ∨ r = 1 := by omega
  all_goals
    go_enter Try.func69, Try.ntmps69
    go_wp2
    go_region
    all_goals
      go_wp2
      refine bodyPost_ret (v := pV ((spanG _).fin s)) (by simp [results, Try.results69, go_sem, spanG, St.of]) rfl ⟨rfl, ?_⟩
      repeat (first | exact Below.refl _ _ | refine Below.drew ?_ | refine below_set ?_ _ (by simp) | refine below_alloc ?_ _)

set_option maxHeartbeats 1000000 in
theorem keepS_any (s t : St) (x : Int × Int) (w : World) : Calls Try.prog 70 #[sval s, sval t, pV x] w fun e w' => e = .returned (pV x) ∧ Below w.heap.size w w' := by
  go_enter Try.func70, Try.ntmps70
  go_wp2
  refine bodyPost_ret (v := pV x) (by simp [results, Try.results70, go_sem]) rfl ⟨rfl, ?_⟩
  repeat (first | exact Below.refl _ _ | refine Below.drew ?_ | refine below_set ?_ _ (by simp) | refine below_alloc ?_ _)

set_option maxHeartbeats 1000000 in
theorem hours3_any (r : Int) (a b : Int × Int) (w : World) : Calls Try.prog 71 #[pV a, pV b] w fun e w' => e = .returned (pV ((spanG r).join a b)) ∧ Below w.heap.size w w' := by
  go_enter Try.func71, Try.ntmps71
  go_wp2
  all_goals
    refine bodyPost_ret (v := pV ((spanG r).join a b)) (by simp [results, Try.results71, go_sem, spanG]; omega) rfl ⟨rfl, ?_⟩
    repeat (first | exact Below.refl _ _ | refine Below.drew ?_ | refine below_set ?_ _ (by simp) | refine below_alloc ?_ _)

end Go.Proofs.Ytkgdejhooghknaa
