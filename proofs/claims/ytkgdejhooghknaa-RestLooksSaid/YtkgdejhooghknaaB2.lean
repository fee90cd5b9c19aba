/- The walk of the rest's 'broken': the first rule that is broken in the last hour. -/
import Derived.Test.YtkgdejhooghknaaB
namespace Go.Proofs.Ytkgdejhooghknaa
open Go.RowKit Go.Lap

theorem rule_at0 (w : World) : (Instr.index 80 (.agg #[.iface 140 (.agg #[.func (.func 97) #[] #[]]), .iface 143 (.agg #[.func (.func 98) #[] #[]]), .iface 143 (.agg #[.func (.func 99) #[] #[]]), .iface 143 (.agg #[.func (.func 100) #[] #[]])]) (.int .i64 0)).run Try.prog w = .ok (.iface 140 (.agg #[.func (.func 97) #[] #[]])) w := by kernel_rfl
theorem rule_at1 (w : World) : (Instr.index 80 (.agg #[.iface 140 (.agg #[.func (.func 97) #[] #[]]), .iface 143 (.agg #[.func (.func 98) #[] #[]]), .iface 143 (.agg #[.func (.func 99) #[] #[]]), .iface 143 (.agg #[.func (.func 100) #[] #[]])]) (.int .i64 1)).run Try.prog w = .ok (.iface 143 (.agg #[.func (.func 98) #[] #[]])) w := by kernel_rfl
theorem rule_at2 (w : World) : (Instr.index 80 (.agg #[.iface 140 (.agg #[.func (.func 97) #[] #[]]), .iface 143 (.agg #[.func (.func 98) #[] #[]]), .iface 143 (.agg #[.func (.func 99) #[] #[]]), .iface 143 (.agg #[.func (.func 100) #[] #[]])]) (.int .i64 2)).run Try.prog w = .ok (.iface 143 (.agg #[.func (.func 99) #[] #[]])) w := by kernel_rfl
theorem rule_at3 (w : World) : (Instr.index 80 (.agg #[.iface 140 (.agg #[.func (.func 97) #[] #[]]), .iface 143 (.agg #[.func (.func 98) #[] #[]]), .iface 143 (.agg #[.func (.func 99) #[] #[]]), .iface 143 (.agg #[.func (.func 100) #[] #[]])]) (.int .i64 3)).run Try.prog w = .ok (.iface 143 (.agg #[.func (.func 100) #[] #[]])) w := by kernel_rfl

theorem ahead97 (w : World) : (nilAhead 263 140 (.agg #[.func (.func 97) #[] #[]]) "lapworks/rest.broken").run Try.prog w = .ok (some false) w := by kernel_rfl
theorem meth97 (w : World) : (method 263 140 (.agg #[.func (.func 97) #[] #[]]) "lapworks/rest.broken").run Try.prog w = .ok (118, .agg #[.func (.func 97) #[] #[]]) w := by kernel_rfl
theorem ahead98 (w : World) : (nilAhead 263 143 (.agg #[.func (.func 98) #[] #[]]) "lapworks/rest.broken").run Try.prog w = .ok (some false) w := by kernel_rfl
theorem meth98 (w : World) : (method 263 143 (.agg #[.func (.func 98) #[] #[]]) "lapworks/rest.broken").run Try.prog w = .ok (119, .agg #[.func (.func 98) #[] #[]]) w := by kernel_rfl
theorem ahead99 (w : World) : (nilAhead 263 143 (.agg #[.func (.func 99) #[] #[]]) "lapworks/rest.broken").run Try.prog w = .ok (some false) w := by kernel_rfl
theorem meth99 (w : World) : (method 263 143 (.agg #[.func (.func 99) #[] #[]]) "lapworks/rest.broken").run Try.prog w = .ok (119, .agg #[.func (.func 99) #[] #[]]) w := by kernel_rfl
theorem ahead100 (w : World) : (nilAhead 263 143 (.agg #[.func (.func 100) #[] #[]]) "lapworks/rest.broken").run Try.prog w = .ok (some false) w := by kernel_rfl
theorem meth100 (w : World) : (method 263 143 (.agg #[.func (.func 100) #[] #[]]) "lapworks/rest.broken").run Try.prog w = .ok (119, .agg #[.func (.func 100) #[] #[]]) w := by kernel_rfl

set_option maxRecDepth 100000 in
set_option maxHeartbeats 1000000 in
theorem broken_any (rb : Nat) (R : Rest) (s : St) (w : World) (hR0 : R.r0.Ok) (hR1 : R.r1.Ok) (hs : s.Ok) (h0 : 0 ≤ s.rider) (h1 : 1 ≤ s.hour)
    (hw : w.heap[rb]? = some (.cells (restCells R) 82 (0, 0))) :
    Calls Try.prog 52 #[.pointer (some ⟨rb, 0, none⟩), sval s] w fun e w' => e = .returned (.int .i64 (broken R s)) ∧ Below w.heap.size w w' := by
  obtain ⟨hlt, hcell⟩ := cells_of hw
  clear hw
  have r1 := hs.rider1
  have e1 : IntKind.i64.wrap (s.hour - 1) = s.hour - 1 := IntWalk.i64_in _ (by have := hs.hour1; omega)
  obtain ⟨rider, run, before, hour, x0, x1⟩ := s
  simp only at h0 h1 r1 e1
  have hr : rider = 0 ∨ rider = 1 := by omega
  clear h0 r1
  rcases hr with rfl | rfl
  · go_enter Try.func52, Try.ntmps52
    go_wp2
    go_loopw [11] (fun i wr => ∃ k : Nat, k ≤ 4 ∧ i = .int .i64 k ∧ (∀ j, j < k → ruleB R ⟨0, run, before, hour, x0, x1⟩ j = false) ∧ Below (w.alloc (.cells #[.int .i64 0, .int .i64 run, .int .i64 before, .int .i64 hour, .int .i64 x0, .int .i64 x1] 71)).heap.size (w.alloc (.cells #[.int .i64 0, .int .i64 run, .int .i64 before, .int .i64 hour, .int .i64 x0, .int .i64 x1] 71)) wr) (fun i _ => 4 - (intOf i).toNat)
    case atStart => exact ⟨0, by omega, rfl, by omega, Below.refl _ _⟩
    case round =>
      obtain ⟨k, hk, rfl, hj, hb⟩ := hrel
      have hj' := hid hj
      clear hj
      have hsz : w.heap.size < wr.heap.size := by have := hb.size; simp at this; omega
      have hlt' : rb < wr.heap.size := by omega
      obtain ⟨hc, hf⟩ := bcell hb
      have i0 := rule_at0
      have i1 := rule_at1
      have i2 := rule_at2
      have i3 := rule_at3
      have n97 := ahead97
      have m97 := meth97
      have n98 := ahead98
      have m98 := meth98
      have n99 := ahead99
      have m99 := meth99
      have n100 := ahead100
      have m100 := meth100
      obtain rfl | rfl | rfl | rfl | rfl : k = 0 ∨ k = 1 ∨ k = 2 ∨ k = 3 ∨ k = 4 := by omega
      · cases hr0 : ruleB R ⟨0, run, before, hour, x0, x1⟩ 0
        all_goals
          have hr0' := hid hr0
          clear hr0
          go_wp2
          refine wp_region_later (by kernel_rfl) (by kernel_rfl) ?_
          intro hx
          repeat (any_goals (first | go_big_quiet_step ((go_at_call 118; exact Calls.later_as (congrArg Value.bool hr0'.out) (hours_any R.r0 ⟨0, run, before, hour, x0, x1⟩ _ h1 hs.hour1 hR0.out0 hR0.out1)))))
          refine wpQuiet_nil ?_
          rintro _ ⟨⟨w1, hb1⟩, rfl⟩
          clear hx
          go_wp2
        · go_roundw
          case rel =>
            refine ⟨1, by omega, by go_num, ?_, hb.trans (hb1.mono hb.size)⟩
            intro j hj
            by_cases hjk : j < 0
            · exact hj'.out j hjk
            · obtain rfl : j = 0 := by omega
              exact hr0'.out
          case measure => simp [intOf]
        · go_ret
          exact ⟨by rw [broken_at R _ 0 (by omega) hj'.out hr0'.out]; rfl, (((Below.refl _ _).alloc (Nat.le_refl _) _).trans (hb.mono (by simp))).trans (hb1.mono (by show w.heap.size ≤ wr.heap.size; omega))⟩
      · cases hr0 : ruleB R ⟨0, run, before, hour, x0, x1⟩ 1
        all_goals
          have hr0' := hid hr0
          clear hr0
          go_wp2
          refine wp_region_later (by kernel_rfl) (by kernel_rfl) ?_
          intro hx
          repeat (any_goals (first | go_big_quiet_step ((go_at_call 119; exact Calls.later_as (congrArg Value.bool hr0'.out) (most98 R.r0 ⟨0, run, before, hour, x0, x1⟩ _ (by show (0:Int) ≤ 0; omega) (by show (0:Int) ≤ 1; omega))))))
          refine wpQuiet_nil ?_
          rintro _ ⟨⟨w1, hb1⟩, rfl⟩
          clear hx
          go_wp2
        · go_roundw
          case rel =>
            refine ⟨2, by omega, by go_num, ?_, hb.trans (hb1.mono hb.size)⟩
            intro j hj
            by_cases hjk : j < 1
            · exact hj'.out j hjk
            · obtain rfl : j = 1 := by omega
              exact hr0'.out
          case measure => simp [intOf]
        · go_ret
          exact ⟨by rw [broken_at R _ 1 (by omega) hj'.out hr0'.out]; rfl, (((Below.refl _ _).alloc (Nat.le_refl _) _).trans (hb.mono (by simp))).trans (hb1.mono (by show w.heap.size ≤ wr.heap.size; omega))⟩
      · cases hr0 : ruleB R ⟨0, run, before, hour, x0, x1⟩ 2
        all_goals
          have hr0' := hid hr0
          clear hr0
          go_wp2
          refine wp_region_later (by kernel_rfl) (by kernel_rfl) ?_
          intro hx
          repeat (any_goals (first | go_big_quiet_step ((go_at_call 119; exact Calls.later_as (congrArg Value.bool hr0'.out) (most99 R.r0 ⟨0, run, before, hour, x0, x1⟩ _)))))
          refine wpQuiet_nil ?_
          rintro _ ⟨⟨w1, hb1⟩, rfl⟩
          clear hx
          go_wp2
        · go_roundw
          case rel =>
            refine ⟨3, by omega, by go_num, ?_, hb.trans (hb1.mono hb.size)⟩
            intro j hj
            by_cases hjk : j < 2
            · exact hj'.out j hjk
            · obtain rfl : j = 2 := by omega
              exact hr0'.out
          case measure => simp [intOf]
        · go_ret
          exact ⟨by rw [broken_at R _ 2 (by omega) hj'.out hr0'.out]; rfl, (((Below.refl _ _).alloc (Nat.le_refl _) _).trans (hb.mono (by simp))).trans (hb1.mono (by show w.heap.size ≤ wr.heap.size; omega))⟩
      · cases hr0 : ruleB R ⟨0, run, before, hour, x0, x1⟩ 3
        all_goals
          have hr0' := hid hr0
          clear hr0
          go_wp2
          refine wp_region_later (by kernel_rfl) (by kernel_rfl) ?_
          intro hx
          repeat (any_goals (first | go_big_quiet_step ((go_at_call 119; exact Calls.later_as (congrArg Value.bool hr0'.out) (most100 R.r0 ⟨0, run, before, hour, x0, x1⟩ _ (by show (0:Int) ≤ 0; omega) (by show (0:Int) ≤ 1; omega))))))
          refine wpQuiet_nil ?_
          rintro _ ⟨⟨w1, hb1⟩, rfl⟩
          clear hx
          go_wp2
        · go_roundw
          case rel =>
            refine ⟨4, by omega, by go_num, ?_, hb.trans (hb1.mono hb.size)⟩
            intro j hj
            by_cases hjk : j < 3
            · exact hj'.out j hjk
            · obtain rfl : j = 3 := by omega
              exact hr0'.out
          case measure => simp [intOf]
        · go_ret
          exact ⟨by rw [broken_at R _ 3 (by omega) hj'.out hr0'.out]; rfl, (((Below.refl _ _).alloc (Nat.le_refl _) _).trans (hb.mono (by simp))).trans (hb1.mono (by show w.heap.size ≤ wr.heap.size; omega))⟩
      · go_wp2
        go_ret
        exact ⟨by rw [broken_none R _ hj'.out]; rfl, ((Below.refl _ _).alloc (Nat.le_refl _) _).trans (hb.mono (by simp))⟩
  · go_enter Try.func52, Try.ntmps52
    go_wp2
    go_loopw [11] (fun i wr => ∃ k : Nat, k ≤ 4 ∧ i = .int .i64 k ∧ (∀ j, j < k → ruleB R ⟨1, run, before, hour, x0, x1⟩ j = false) ∧ Below (w.alloc (.cells #[.int .i64 1, .int .i64 run, .int .i64 before, .int .i64 hour, .int .i64 x0, .int .i64 x1] 71)).heap.size (w.alloc (.cells #[.int .i64 1, .int .i64 run, .int .i64 before, .int .i64 hour, .int .i64 x0, .int .i64 x1] 71)) wr) (fun i _ => 4 - (intOf i).toNat)
    case atStart => exact ⟨0, by omega, rfl, by omega, Below.refl _ _⟩
    case round =>
      obtain ⟨k, hk, rfl, hj, hb⟩ := hrel
      have hj' := hid hj
      clear hj
      have hsz : w.heap.size < wr.heap.size := by have := hb.size; simp at this; omega
      have hlt' : rb < wr.heap.size := by omega
      obtain ⟨hc, hf⟩ := bcell hb
      have i0 := rule_at0
      have i1 := rule_at1
      have i2 := rule_at2
      have i3 := rule_at3
      have n97 := ahead97
      have m97 := meth97
      have n98 := ahead98
      have m98 := meth98
      have n99 := ahead99
      have m99 := meth99
      have n100 := ahead100
      have m100 := meth100
      obtain rfl | rfl | rfl | rfl | rfl : k = 0 ∨ k = 1 ∨ k = 2 ∨ k = 3 ∨ k = 4 := by omega
      · cases hr0 : ruleB R ⟨1, run, before, hour, x0, x1⟩ 0
        all_goals
          have hr0' := hid hr0
          clear hr0
          go_wp2
          refine wp_region_later (by kernel_rfl) (by kernel_rfl) ?_
          intro hx
          repeat (any_goals (first | go_big_quiet_step ((go_at_call 118; exact Calls.later_as (congrArg Value.bool hr0'.out) (hours_any R.r1 ⟨1, run, before, hour, x0, x1⟩ _ h1 hs.hour1 hR1.out0 hR1.out1)))))
          refine wpQuiet_nil ?_
          rintro _ ⟨⟨w1, hb1⟩, rfl⟩
          clear hx
          go_wp2
        · go_roundw
          case rel =>
            refine ⟨1, by omega, by go_num, ?_, hb.trans (hb1.mono hb.size)⟩
            intro j hj
            by_cases hjk : j < 0
            · exact hj'.out j hjk
            · obtain rfl : j = 0 := by omega
              exact hr0'.out
          case measure => simp [intOf]
        · go_ret
          exact ⟨by rw [broken_at R _ 0 (by omega) hj'.out hr0'.out]; rfl, (((Below.refl _ _).alloc (Nat.le_refl _) _).trans (hb.mono (by simp))).trans (hb1.mono (by show w.heap.size ≤ wr.heap.size; omega))⟩
      · cases hr0 : ruleB R ⟨1, run, before, hour, x0, x1⟩ 1
        all_goals
          have hr0' := hid hr0
          clear hr0
          go_wp2
          refine wp_region_later (by kernel_rfl) (by kernel_rfl) ?_
          intro hx
          repeat (any_goals (first | go_big_quiet_step ((go_at_call 119; exact Calls.later_as (congrArg Value.bool hr0'.out) (most98 R.r1 ⟨1, run, before, hour, x0, x1⟩ _ (by show (0:Int) ≤ 1; omega) (by show (1:Int) ≤ 1; omega))))))
          refine wpQuiet_nil ?_
          rintro _ ⟨⟨w1, hb1⟩, rfl⟩
          clear hx
          go_wp2
        · go_roundw
          case rel =>
            refine ⟨2, by omega, by go_num, ?_, hb.trans (hb1.mono hb.size)⟩
            intro j hj
            by_cases hjk : j < 1
            · exact hj'.out j hjk
            · obtain rfl : j = 1 := by omega
              exact hr0'.out
          case measure => simp [intOf]
        · go_ret
          exact ⟨by rw [broken_at R _ 1 (by omega) hj'.out hr0'.out]; rfl, (((Below.refl _ _).alloc (Nat.le_refl _) _).trans (hb.mono (by simp))).trans (hb1.mono (by show w.heap.size ≤ wr.heap.size; omega))⟩
      · cases hr0 : ruleB R ⟨1, run, before, hour, x0, x1⟩ 2
        all_goals
          have hr0' := hid hr0
          clear hr0
          go_wp2
          refine wp_region_later (by kernel_rfl) (by kernel_rfl) ?_
          intro hx
          repeat (any_goals (first | go_big_quiet_step ((go_at_call 119; exact Calls.later_as (congrArg Value.bool hr0'.out) (most99 R.r1 ⟨1, run, before, hour, x0, x1⟩ _)))))
          refine wpQuiet_nil ?_
          rintro _ ⟨⟨w1, hb1⟩, rfl⟩
          clear hx
          go_wp2
        · go_roundw
          case rel =>
            refine ⟨3, by omega, by go_num, ?_, hb.trans (hb1.mono hb.size)⟩
            intro j hj
            by_cases hjk : j < 2
            · exact hj'.out j hjk
            · obtain rfl : j = 2 := by omega
              exact hr0'.out
          case measure => simp [intOf]
        · go_ret
          exact ⟨by rw [broken_at R _ 2 (by omega) hj'.out hr0'.out]; rfl, (((Below.refl _ _).alloc (Nat.le_refl _) _).trans (hb.mono (by simp))).trans (hb1.mono (by show w.heap.size ≤ wr.heap.size; omega))⟩
      · cases hr0 : ruleB R ⟨1, run, before, hour, x0, x1⟩ 3
        all_goals
          have hr0' := hid hr0
          clear hr0
          go_wp2
          refine wp_region_later (by kernel_rfl) (by kernel_rfl) ?_
          intro hx
          repeat (any_goals (first | go_big_quiet_step ((go_at_call 119; exact Calls.later_as (congrArg Value.bool hr0'.out) (most100 R.r1 ⟨1, run, before, hour, x0, x1⟩ _ (by show (0:Int) ≤ 1; omega) (by show (1:Int) ≤ 1; omega))))))
          refine wpQuiet_nil ?_
          rintro _ ⟨⟨w1, hb1⟩, rfl⟩
          clear hx
          go_wp2
        · go_roundw
          case rel =>
            refine ⟨4, by omega, by go_num, ?_, hb.trans (hb1.mono hb.size)⟩
            intro j hj
            by_cases hjk : j < 3
            · exact hj'.out j hjk
            · obtain rfl : j = 3 := by omega
              exact hr0'.out
          case measure => simp [intOf]
        · go_ret
          exact ⟨by rw [broken_at R _ 3 (by omega) hj'.out hr0'.out]; rfl, (((Below.refl _ _).alloc (Nat.le_refl _) _).trans (hb.mono (by simp))).trans (hb1.mono (by show w.heap.size ≤ wr.heap.size; omega))⟩
      · go_wp2
        go_ret
        exact ⟨by rw [broken_none R _ hj'.out]; rfl, ((Below.refl _ _).alloc (Nat.le_refl _) _).trans (hb.mono (by simp))⟩

end Go.Proofs.Ytkgdejhooghknaa
