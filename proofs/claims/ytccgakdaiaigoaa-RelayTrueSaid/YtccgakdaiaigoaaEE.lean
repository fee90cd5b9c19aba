/- The law's shift, walked. -/
import Derived.Test.YtccgakdaiaigoaaGG
namespace Go.Proofs.Ytccgakdaiaigoaa
open Go.RowKit Go.Lap Go.Shelf

set_option maxRecDepth 100000 in
set_option maxHeartbeats 4000000 in
theorem shift_any (lo hi d : Int) (h1 : 0 ≤ lo) (h2 : lo ≤ 600) (h3 : 0 ≤ hi) (h4 : hi ≤ 600) (h5 : 0 ≤ d) (h6 : d ≤ 600) (w : World) : Calls Try.prog 42 #[.agg #[.int .i64 lo, .int .i64 hi], .int .i64 d] w fun e w' => e = .returned (.agg #[.int .i64 (lo + d), .int .i64 (hi + d)]) ∧ Below w.heap.size w w' := by
  have hb0 := hid (below_alloc (below_alloc (Below.refl _ w) (.cells #[.int .i64 lo, .int .i64 hi] 28)) (.cells #[.int .i64 0, .int .i64 0] 28))
  have hm : ((w.alloc (.cells #[.int .i64 lo, .int .i64 hi] 28)).alloc (.cells #[.int .i64 0, .int .i64 0] 28)).heap[w.heap.size + 1]? = some (.cells #[.int .i64 0, .int .i64 0] 28 (0, 0)) := alloc_at (by simp)
  go_enter Try.func42, Try.ntmps42
  go_wp2_with (go_at_call 34; with_reducible refine (lspan_any _ _ _).mono ?_; rintro e w1 ⟨rfl, hb⟩; have hm1 := hid ((hb.block _ (cells_of hm).1).trans hm); have l1 := (cells_of hm1.out).1; have c1 := (cells_of hm1.out).2; have z1 := free_of hm1.out; replace hb0 := hid (below_via hb hb0.out); clear hb)
  have hs := heap_set_same (o := 1) (v := .int .i64 (hi + d)) (heap_set_same (o := 0) (v := .int .i64 (lo + d)) hm1.out)
  have r0 := (cells_of hs).2 0
  have r1 := (cells_of hs).2 1
  refine bodyPost_ret (v := .agg #[.int .i64 (lo + d), .int .i64 (hi + d)]) (by simp [results, Try.results42, go_sem, r0, r1]) rfl ⟨rfl, below_set (below_set hb0.out _ (by simp)) _ (by simp)⟩
end Go.Proofs.Ytccgakdaiaigoaa
