/- The walks of the fairest plan's goal. -/
import Derived.Test.YtkgdejhooghknaaI1
namespace Go.Proofs.Ytkgdejhooghknaa
open Go.RowKit Go.Lap Go.Shelf

set_option maxHeartbeats 1000000 in
theorem max_any (b : Nat) (x y : Int) (w : World) (hx : w.cell? ⟨b, 4, none⟩ = some (.int .i64 x)) (hy : w.cell? ⟨b, 5, none⟩ = some (.int .i64 y)) :
    Calls Try.prog 93 #[.slice (some ⟨b, 4, none⟩) 2 2] w fun e w' => e = .returned (.int .i64 (max x y)) ∧ w = w' := by
  go_enter Try.func93, Try.ntmps93
  go_wp2
  go_loopw [3, 4] (fun m i wr => w = wr ∧ ∃ k : Int, i = .int .i64 k ∧ ((k = 1 ∧ m = .int .i64 x) ∨ (k = 2 ∧ m = .int .i64 (max x y)))) (fun _ i _ => 2 - (intOf i).toNat)
  case atStart => exact ⟨rfl, 1, rfl, .inl ⟨rfl, rfl⟩⟩
  case round =>
    obtain ⟨rfl, k, rfl, ⟨rfl, rfl⟩ | ⟨rfl, rfl⟩⟩ := hrel
    · go_wp2
      all_goals
        go_roundw
        case rel => exact ⟨trivial, 2, rfl, .inr ⟨rfl, congrArg _ (by omega)⟩⟩
        case measure => simp [intOf]
    · go_wp2
      go_ret
      exact ⟨rfl, rfl⟩

set_option maxHeartbeats 1000000 in
theorem min_any (b : Nat) (x y : Int) (w : World) (hx : w.cell? ⟨b, 4, none⟩ = some (.int .i64 x)) (hy : w.cell? ⟨b, 5, none⟩ = some (.int .i64 y)) :
    Calls Try.prog 94 #[.slice (some ⟨b, 4, none⟩) 2 2] w fun e w' => e = .returned (.int .i64 (min x y)) ∧ w = w' := by
  go_enter Try.func94, Try.ntmps94
  go_wp2
  go_loopw [3, 4] (fun m i wr => w = wr ∧ ∃ k : Int, i = .int .i64 k ∧ ((k = 1 ∧ m = .int .i64 x) ∨ (k = 2 ∧ m = .int .i64 (min x y)))) (fun _ i _ => 2 - (intOf i).toNat)
  case atStart => exact ⟨rfl, 1, rfl, .inl ⟨rfl, rfl⟩⟩
  case round =>
    obtain ⟨rfl, k, rfl, ⟨rfl, rfl⟩ | ⟨rfl, rfl⟩⟩ := hrel
    · go_wp2
      all_goals
        go_roundw
        case rel => exact ⟨trivial, 2, rfl, .inr ⟨rfl, congrArg _ (by omega)⟩⟩
        case measure => simp [intOf]
    · go_wp2
      go_ret
      exact ⟨rfl, rfl⟩

set_option maxHeartbeats 1000000 in
theorem apart_any (b : Nat) (x y : Int) (hx0 : 0 ≤ x) (hx1 : x ≤ 16) (hy0 : 0 ≤ y) (hy1 : y ≤ 16) (w : World) (hx : w.cell? ⟨b, 4, none⟩ = some (.int .i64 x)) (hy : w.cell? ⟨b, 5, none⟩ = some (.int .i64 y)) :
    Calls Try.prog 65 #[.slice (some ⟨b, 4, none⟩) 2 2] w fun e w' => e = .returned (.int .i64 (max x y - min x y)) ∧ w = w' := by
  have hwr : IntKind.i64.wrap (max x y - min x y) = max x y - min x y := IntWalk.i64_in _ (by omega)
  go_enter Try.func65, Try.ntmps65
  go_wp2_with (first
    | (go_at_call 93; refine (max_any b x y _ hx hy).mono ?_; rintro e w' ⟨rfl, rfl⟩)
    | (go_at_call 94; refine (min_any b x y _ hx hy).mono ?_; rintro e w' ⟨rfl, rfl⟩))
  go_ret
  exact ⟨rfl, rfl⟩

set_option maxHeartbeats 1000000 in
theorem even1_any (s : St) (hs : s.Ok) (w : World) : Calls Try.prog 64 #[sval s] w fun e w' => e = .returned (.int .i64 (evenG.fin s)) ∧ Below w.heap.size w w' := by
  have h0 := hs.h00; have h1 := hs.h01; have h2 := hs.h10; have h3 := hs.h11; have h4 := hs.hour1
  go_enter Try.func64, Try.ntmps64
  go_wp2_with (go_at_call 65; refine (apart_any w.heap.size s.h0 s.h1 h0 (by omega) h2 (by omega) _ (by simp [go_sem]) (by simp [go_sem])).mono ?_; rintro e w' ⟨rfl, rfl⟩)
  go_ret
  exact ⟨rfl, below_alloc (Below.refl _ _) _⟩

abbrev evenFns : GoalFns := ⟨64, #[], 66, #[], 92, #[]⟩

theorem even_ok : GoalOkI evenFns evenG :=
  ⟨enters_of Try.func64 (by kernel_rfl) rfl, enters_of Try.func66 (by kernel_rfl) rfl, enters_of Try.func92 (by kernel_rfl) rfl, fun s w hs => even1_any s hs w, fun s t x w _ _ _ => keep_any s t x w, fun a b w => least1_any a b w⟩

end Go.Proofs.Ytkgdejhooghknaa
