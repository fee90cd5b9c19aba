/- The walks of the goals at sets. -/
import Derived.Test.YtkgdejhooghknaaK3
namespace Go.Proofs.Ytkgdejhooghknaa
open Go.RowKit Go.Lap Go.Shelf

/-- The hours in which each has to ride: what all plans have in common. -/
def setsG : Goal (Int × Int) :=
  ⟨fun _ => (0, 0), fun s nx x => if nx.rider = 0 then (bits .or .i64 x.1 (wrap64 (2 ^ s.hour.toNat)), x.2) else (x.1, bits .or .i64 x.2 (wrap64 (2 ^ s.hour.toNat))), fun a b => (bits .and .i64 a.1 b.1, bits .and .i64 a.2 b.2)⟩

set_option maxHeartbeats 1000000 in
theorem must1_any (s : St) (w : World) : Calls Try.prog 75 #[sval s] w fun e w' => e = .returned (pV (setsG.fin s)) ∧ Below w.heap.size w w' := by
  go_enter Try.func75, Try.ntmps75
  go_wp2
  refine bodyPost_ret (v := pV (0, 0)) (by simp [results, Try.results75, go_sem]) rfl ⟨rfl, ?_⟩
  repeat (first | exact Below.refl _ _ | refine Below.drew ?_ | refine below_set ?_ _ (by simp) | refine below_alloc ?_ _)

set_option maxHeartbeats 1000000 in
theorem must2_any (s t : St) (hs : s.Ok) (ht : t.Ok) (h0 : 0 ≤ t.rider) (x : Int × Int) (w : World) : Calls Try.prog 76 #[sval s, sval t, pV x] w fun e w' => e = .returned (pV (setsG.hour s t x)) ∧ Below w.heap.size w w' := by
  have hh0 := hs.hour0
  have hh1 := hs.hour1
  have h1 := ht.rider1
  obtain ⟨rider, run, before, hour, x0, x1⟩ := s
  obtain ⟨rider', run', before', hour', x0', x1'⟩ := t
  simp only at h0 h1
  obtain rfl | rfl : rider' = 0 ∨ rider' = 1 := by omega
  · go_enter Try.func76, Try.ntmps76
    go_wp2
    go_region
    all_goals
      go_wp2
      refine bodyPost_ret (v := pV (bits .or .i64 x.1 (wrap64 (2 ^ hour.toNat)), x.2)) (by simp [results, Try.results76, go_sem]) rfl ⟨rfl, ?_⟩
      repeat (first | exact Below.refl _ _ | refine Below.drew ?_ | refine below_set ?_ _ (by simp) | refine below_alloc ?_ _)
  · go_enter Try.func76, Try.ntmps76
    go_wp2
    go_region
    all_goals
      go_wp2
      refine bodyPost_ret (v := pV (x.1, bits .or .i64 x.2 (wrap64 (2 ^ hour.toNat)))) (by simp [results, Try.results76, go_sem]) rfl ⟨rfl, ?_⟩
      repeat (first | exact Below.refl _ _ | refine Below.drew ?_ | refine below_set ?_ _ (by simp) | refine below_alloc ?_ _)

set_option maxHeartbeats 1000000 in
theorem must3_any (a b : Int × Int) (w : World) : Calls Try.prog 77 #[pV a, pV b] w fun e w' => e = .returned (pV (setsG.join a b)) ∧ Below w.heap.size w w' := by
  go_enter Try.func77, Try.ntmps77
  go_wp2
  refine bodyPost_ret (v := pV (setsG.join a b)) (by simp [results, Try.results77, go_sem, setsG]) rfl ⟨rfl, ?_⟩
  repeat (first | exact Below.refl _ _ | refine Below.drew ?_ | refine below_set ?_ _ (by simp) | refine below_alloc ?_ _)

abbrev setsFns : GoalFns := ⟨75, #[], 76, #[], 77, #[]⟩
abbrev spanFns (rd : Nat) : GoalFns := ⟨69, #[.pointer (some ⟨rd, 0, none⟩)], 70, #[], 71, #[]⟩

theorem sets_ok : GoalOkP setsFns setsG := ⟨enters_of Try.func75 (by kernel_rfl) rfl, enters_of Try.func76 (by kernel_rfl) rfl, enters_of Try.func77 (by kernel_rfl) rfl⟩
theorem sets_run : GoalRunP setsFns setsG (fun _ => True) :=
  ⟨fun s w _ _ => must1_any s w, fun s t x w hs ht h0 _ => must2_any s t hs ht h0 x w, fun a b w _ => must3_any a b w⟩
theorem span_ok (rd : Nat) (r : Int) : GoalOkP (spanFns rd) (spanG r) := ⟨enters_of Try.func69 (by kernel_rfl) rfl, enters_of Try.func70 (by kernel_rfl) rfl, enters_of Try.func71 (by kernel_rfl) rfl⟩
theorem span_run (rd : Nat) (r : Int) (h0 : 0 ≤ r) (h1 : r ≤ 1) : GoalRunP (spanFns rd) (spanG r) (fun w => w.heap[rd]? = some (.cells #[.int .i64 r] 3 (0, 0))) :=
  ⟨fun s w _ hc => hours2_any rd r h0 h1 s w hc, fun s t x w _ _ _ _ => keepS_any s t x w, fun a b w _ => hours3_any r a b w⟩

theorem sets_lasts (m : Nat) : Lasts (fun _ => True) m := fun _ _ _ _ _ => trivial
theorem span_lasts (m rd : Nat) (r : Int) : Lasts (fun w => w.heap[rd]? = some (.cells #[.int .i64 r] 3 (0, 0))) m := by
  rintro w w' ⟨es, c, hm⟩ hg hc
  refine (hg.block rd (cells_of hc).1 ?_).trans hc
  intro e; cases e
  rw [hm] at hc; cases hc

end Go.Proofs.Ytkgdejhooghknaa
