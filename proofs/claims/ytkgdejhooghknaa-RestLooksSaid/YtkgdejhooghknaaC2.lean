/- The walk of 'open' of package rest. -/
import Derived.Test.YtkgdejhooghknaaC
namespace Go.Proofs.Ytkgdejhooghknaa
open Go.RowKit Go.Lap

abbrev restV (R : Rest) : Value := .agg #[.int .i64 R.hours, .int .i64 R.r0.out, .int .i64 R.r0.total, .int .i64 R.r0.run, .int .i64 R.r0.off, .int .i64 R.r1.out, .int .i64 R.r1.total, .int .i64 R.r1.run, .int .i64 R.r1.off]

/-- How 'open' ends: where the rest lies, or which panic it is. -/
def OpenPost (R : Rest) (b : Bool) (w : World) (e : Ending) (w' : World) : Prop :=
  Below w.heap.size w w' ∧
  if R.valid then
    if b then ∃ rb, e = .returned (.pointer (some ⟨rb, 0, none⟩)) ∧ w.heap.size ≤ rb ∧ w'.heap[rb]? = some (.cells (restCells R) 82 (0, 0))
    else e = .panicked [{ v := failV 2, recovered := false }]
  else e = .panicked [{ v := failV 1, recovered := false }]

theorem openPost_bad {R : Rest} {b : Bool} {w w' : World} (h : R.valid = false) (hb : Below w.heap.size w w') : OpenPost R b w (.panicked [{ v := failV 1, recovered := false }]) w' := by
  refine ⟨hb, ?_⟩
  rw [h]; simp

theorem index24_0 (a b c d e f g h : Value) (w : World) : (Instr.index 24 (.agg #[a, b, c, d, e, f, g, h]) (.int .i64 0)).run Try.prog w = .ok (.agg #[a, b, c, d]) w := by kernel_rfl
theorem index24_1 (a b c d e f g h : Value) (w : World) : (Instr.index 24 (.agg #[a, b, c, d, e, f, g, h]) (.int .i64 1)).run Try.prog w = .ok (.agg #[e, f, g, h]) w := by kernel_rfl
theorem index118_0 (a b c : Value) (w : World) : (Instr.index 118 (.agg #[a, b, c]) (.int .i64 0)).run Try.prog w = .ok a w := by kernel_rfl
theorem index118_1 (a b c : Value) (w : World) : (Instr.index 118 (.agg #[a, b, c]) (.int .i64 1)).run Try.prog w = .ok b w := by kernel_rfl
theorem index118_2 (a b c : Value) (w : World) : (Instr.index 118 (.agg #[a, b, c]) (.int .i64 2)).run Try.prog w = .ok c w := by kernel_rfl

theorem openPost_ok {R : Rest} {w w' : World} {rb : Nat} (h : R.valid = true) (hb : Below w.heap.size w w') (h1 : w.heap.size ≤ rb) (h2 : w'.heap[rb]? = some (.cells (restCells R) 82 (0, 0))) :
    OpenPost R true w (.returned (.pointer (some ⟨rb, 0, none⟩))) w' := by
  refine ⟨hb, ?_⟩
  rw [if_pos h, if_pos rfl]; exact ⟨rb, rfl, h1, h2⟩
theorem openPost_range {R : Rest} {w w' : World} (h : R.valid = true) (hb : Below w.heap.size w w') : OpenPost R false w (.panicked [{ v := failV 2, recovered := false }]) w' := by
  refine ⟨hb, ?_⟩
  rw [if_pos h]; simp

set_option maxRecDepth 100000 in
set_option maxHeartbeats 2000000 in
theorem open_any (R : Rest) (b : Bool) (f : Nat) (cap : Array Value) (w : World) (hf : ∀ args w, (callFunc f args).run Try.prog w = .ok (.enter f args) w)
    (his : R.valid = true → ∀ w', Below w.heap.size w w' → Calls Try.prog f cap w' fun e w'' => e = .returned (.bool b) ∧ Below w'.heap.size w' w'') :
    Calls Try.prog 47 #[restV R, .func (.func f) #[] cap] w (OpenPost R b w) := by
  have his' := hid his
  clear his
  cases hH : inB R.hours 0 16
  · have hH' := hid hH
    clear hH
    go_enter Try.func47, Try.ntmps47
    go_wp2_with (first | (go_at_call 46; refine (within_any _ _ _ _).mono ?_; rw [hH'.out]; rintro e w' ⟨rfl, rfl⟩) | (go_at_call 72; refine (must_no _ _).mono ?_; rintro e w' ⟨rfl, rfl⟩))
    refine ⟨rfl, openPost_bad (by simp [Rest.valid, hH'.out]) ?_⟩
    exact (Below.refl _ _).alloc (Nat.le_refl _) _
  · have hH' := hid hH
    have hb1 : 0 ≤ R.hours ∧ R.hours ≤ 16 := by simpa [inB] using hH
    clear hH
    have hP := pow_bounds hb1.1 hb1.2
    have hsh := shl_one (P := Try.prog) R.hours hb1.1 (by omega)
    generalize hPP : (2 : Int) ^ R.hours.toNat = P at hP hsh
    have hPP' := hid hPP
    clear hPP hb1
    have hs1 : IntKind.i64.wrap (P - 1) = P - 1 := IntWalk.i64_in _ (by omega)
    clear hP
    go_enter Try.func47, Try.ntmps47
    go_wp2_with (first | (go_at_call 46; refine (within_any _ _ _ _).mono ?_; rw [hH'.out]; rintro e w' ⟨rfl, rfl⟩) | (go_at_call 72; refine (must_yes _ _).mono ?_; rintro e w' ⟨rfl, rfl⟩))
    have hW1 : Below w.heap.size w (w.alloc (.cells #[.int .i64 R.hours, .int .i64 R.r0.out, .int .i64 R.r0.total, .int .i64 R.r0.run, .int .i64 R.r0.off, .int .i64 R.r1.out, .int .i64 R.r1.total, .int .i64 R.r1.run, .int .i64 R.r1.off] 26)) := (Below.refl _ _).alloc (Nat.le_refl _) _
    have hW1 : Below w.heap.size w (w.alloc (.cells #[.int .i64 R.hours, .int .i64 R.r0.out, .int .i64 R.r0.total, .int .i64 R.r0.run, .int .i64 R.r0.off, .int .i64 R.r1.out, .int .i64 R.r1.total, .int .i64 R.r1.run, .int .i64 R.r1.off] 26)) := (Below.refl _ _).alloc (Nat.le_refl _) _
    have hW1 : Below w.heap.size w (w.alloc (.cells #[.int .i64 R.hours, .int .i64 R.r0.out, .int .i64 R.r0.total, .int .i64 R.r0.run, .int .i64 R.r0.off, .int .i64 R.r1.out, .int .i64 R.r1.total, .int .i64 R.r1.run, .int .i64 R.r1.off] 26)) := (Below.refl _ _).alloc (Nat.le_refl _) _
    have hW1 : Below w.heap.size w (w.alloc (.cells #[.int .i64 R.hours, .int .i64 R.r0.out, .int .i64 R.r0.total, .int .i64 R.r0.run, .int .i64 R.r0.off, .int .i64 R.r1.out, .int .i64 R.r1.total, .int .i64 R.r1.run, .int .i64 R.r1.off] 26)) := (Below.refl _ _).alloc (Nat.le_refl _) _
    go_loopw [15] (fun i wr => ∃ k : Nat, k ≤ 2 ∧ i = .int .i64 k ∧ Hid (∀ j, j < k → riderOk (R.nth j) R.hours = true) ∧ Below (w.alloc (.cells #[.int .i64 R.hours, .int .i64 R.r0.out, .int .i64 R.r0.total, .int .i64 R.r0.run, .int .i64 R.r0.off, .int .i64 R.r1.out, .int .i64 R.r1.total, .int .i64 R.r1.run, .int .i64 R.r1.off] 26)).heap.size (w.alloc (.cells #[.int .i64 R.hours, .int .i64 R.r0.out, .int .i64 R.r0.total, .int .i64 R.r0.run, .int .i64 R.r0.off, .int .i64 R.r1.out, .int .i64 R.r1.total, .int .i64 R.r1.run, .int .i64 R.r1.off] 26)) wr) (fun i _ => 2 - (intOf i).toNat)
    case atStart => exact ⟨0, by omega, rfl, hid (by omega), Below.refl _ _⟩
    case round =>
      obtain ⟨k, hk, rfl, hjo, hb⟩ := hrel
      have hsz : w.heap.size < wr.heap.size := by have := hb.size; simp at this; omega
      have hbw : Below w.heap.size w wr := below_via hb hW1
      obtain ⟨hc, hf1⟩ := bcell hb
      obtain rfl | rfl | rfl : k = 0 ∨ k = 1 ∨ k = 2 := by omega
      · have i24 := index24_0
        cases hO : inB R.r0.out 0 (P - 1)
        · have hO' := hid hO
          clear hO
          go_wp2
          refine wp_region_later_tail 7 (by kernel_rfl) (by kernel_rfl) ?_
          intro hx
          simp only [List.take_succ_cons, List.take_zero, List.drop_succ_cons, List.drop_zero]
          repeat (any_goals (first | go_big_quiet_step ((go_at_call 46; exact Calls.later_same ((within_any _ _ _ _).mono fun e w' ⟨he, hw⟩ => ⟨he.trans (congrArg (fun b => Ending.returned (.bool b)) hO'.out), hw⟩)))))
          refine wpQuiet_nil ?_
          rintro w2 ⟨x, hxw⟩
          have hb2 := x.below
          rw [← hxw] at hb2
          clear hx hxw x
          go_wp2_with (go_at_call 72; refine (must_no _ _).mono ?_; rintro e w' ⟨rfl, rfl⟩)
          refine ⟨rfl, openPost_bad (Rest.valid_no 0 (riderOk_no (by rw [hPP'.out]; exact hO'.out))) ?_⟩
          exact below_via hb2 (below_alloc hbw _)
        · have hO' := hid hO
          clear hO
          go_wp2
          refine wp_region_later_tail 7 (by kernel_rfl) (by kernel_rfl) ?_
          intro hx
          simp only [List.take_succ_cons, List.take_zero, List.drop_succ_cons, List.drop_zero]
          repeat (any_goals (first | go_big_quiet_step ((go_at_call 46; exact Calls.later_same ((within_any _ _ _ _).mono fun e w' ⟨he, hw⟩ => ⟨he.trans (congrArg (fun b => Ending.returned (.bool b)) hO'.out), hw⟩)))))
          refine wpQuiet_nil ?_
          rintro w2 ⟨x, hxw⟩
          have hb2 := x.below
          rw [← hxw] at hb2
          clear hx hxw x
          have hbw2 : Below w.heap.size w w2 := below_via hb2 (below_alloc hbw _)
          have hk2 := hb.trans ((((Below.refl _ wr).alloc (Nat.le_refl _) _).trans (hb2.mono (by simp))).mono hb.size)
          obtain ⟨hc2, hf2⟩ := bcell hb2
          go_wp2_with (go_at_call 72; refine (must_yes _ _).mono ?_; rintro e w' ⟨rfl, rfl⟩)
          go_loopw [33] (fun i wr2 => ∃ m : Nat, m ≤ 3 ∧ i = .int .i64 m ∧ Hid (∀ j, j < m → inB (Rider.num R.r0 j) 0 16 = true) ∧ wr2 = w2) (fun i _ => 3 - (intOf i).toNat)
          case atStart => exact ⟨0, by omega, rfl, hid (by omega), rfl⟩
          case round =>
            obtain ⟨m, hm, rfl, hjm, rfl⟩ := hrel
            obtain rfl | rfl | rfl | rfl : m = 0 ∨ m = 1 ∨ m = 2 ∨ m = 3 := by omega
            · have i118 := index118_0
              cases hN : inB (Rider.num R.r0 0) 0 16
              all_goals
                have hN' := hid hN
                clear hN
              · go_wp2_with (first | (go_at_call 46; refine (within_any _ _ _ _).mono ?_; rw [show inB R.r0.total 0 16 = false from hN'.out]; rintro e w' ⟨rfl, rfl⟩) | (go_at_call 72; refine (must_no _ _).mono ?_; rintro e w' ⟨rfl, rfl⟩))
                exact ⟨rfl, openPost_bad (Rest.valid_no 0 (riderOk_no' 0 hN'.out)) hbw2⟩
              · go_wp2_with (first | (go_at_call 46; refine (within_any _ _ _ _).mono ?_; rw [show inB R.r0.total 0 16 = true from hN'.out]; rintro e w' ⟨rfl, rfl⟩) | (go_at_call 72; refine (must_yes _ _).mono ?_; rintro e w' ⟨rfl, rfl⟩))
                go_roundw
                case rel =>
                  refine ⟨1, by omega, by go_num, ?_, by simp⟩
                  intro j hj
                  by_cases hjk : j < 0
                  · exact hjm.out j hjk
                  · obtain rfl : j = 0 := by omega
                    exact hN'.out
                case measure => simp [intOf]
            · have i118 := index118_1
              cases hN : inB (Rider.num R.r0 1) 0 16
              all_goals
                have hN' := hid hN
                clear hN
              · go_wp2_with (first | (go_at_call 46; refine (within_any _ _ _ _).mono ?_; rw [show inB R.r0.run 0 16 = false from hN'.out]; rintro e w' ⟨rfl, rfl⟩) | (go_at_call 72; refine (must_no _ _).mono ?_; rintro e w' ⟨rfl, rfl⟩))
                exact ⟨rfl, openPost_bad (Rest.valid_no 0 (riderOk_no' 1 hN'.out)) hbw2⟩
              · go_wp2_with (first | (go_at_call 46; refine (within_any _ _ _ _).mono ?_; rw [show inB R.r0.run 0 16 = true from hN'.out]; rintro e w' ⟨rfl, rfl⟩) | (go_at_call 72; refine (must_yes _ _).mono ?_; rintro e w' ⟨rfl, rfl⟩))
                go_roundw
                case rel =>
                  refine ⟨2, by omega, by go_num, ?_, by simp⟩
                  intro j hj
                  by_cases hjk : j < 1
                  · exact hjm.out j hjk
                  · obtain rfl : j = 1 := by omega
                    exact hN'.out
                case measure => simp [intOf]
            · have i118 := index118_2
              cases hN : inB (Rider.num R.r0 2) 0 16
              all_goals
                have hN' := hid hN
                clear hN
              · go_wp2_with (first | (go_at_call 46; refine (within_any _ _ _ _).mono ?_; rw [show inB R.r0.off 0 16 = false from hN'.out]; rintro e w' ⟨rfl, rfl⟩) | (go_at_call 72; refine (must_no _ _).mono ?_; rintro e w' ⟨rfl, rfl⟩))
                exact ⟨rfl, openPost_bad (Rest.valid_no 0 (riderOk_no' 2 hN'.out)) hbw2⟩
              · go_wp2_with (first | (go_at_call 46; refine (within_any _ _ _ _).mono ?_; rw [show inB R.r0.off 0 16 = true from hN'.out]; rintro e w' ⟨rfl, rfl⟩) | (go_at_call 72; refine (must_yes _ _).mono ?_; rintro e w' ⟨rfl, rfl⟩))
                go_roundw
                case rel =>
                  refine ⟨3, by omega, by go_num, ?_, by simp⟩
                  intro j hj
                  by_cases hjk : j < 2
                  · exact hjm.out j hjk
                  · obtain rfl : j = 2 := by omega
                    exact hN'.out
                case measure => simp [intOf]
            · go_wp2
              go_roundw
              case rel =>
                refine ⟨1, by omega, by go_num, ?_, hk2⟩
                intro j hj
                by_cases hjk : j < 0
                · exact hjo.out j hjk
                · obtain rfl : j = 0 := by omega
                  exact riderOk_of (by rw [hPP'.out]; exact hO'.out) hjm.out
              case measure => simp [intOf]
      · have i24 := index24_1
        cases hO : inB R.r1.out 0 (P - 1)
        · have hO' := hid hO
          clear hO
          go_wp2
          refine wp_region_later_tail 7 (by kernel_rfl) (by kernel_rfl) ?_
          intro hx
          simp only [List.take_succ_cons, List.take_zero, List.drop_succ_cons, List.drop_zero]
          repeat (any_goals (first | go_big_quiet_step ((go_at_call 46; exact Calls.later_same ((within_any _ _ _ _).mono fun e w' ⟨he, hw⟩ => ⟨he.trans (congrArg (fun b => Ending.returned (.bool b)) hO'.out), hw⟩)))))
          refine wpQuiet_nil ?_
          rintro w2 ⟨x, hxw⟩
          have hb2 := x.below
          rw [← hxw] at hb2
          clear hx hxw x
          go_wp2_with (go_at_call 72; refine (must_no _ _).mono ?_; rintro e w' ⟨rfl, rfl⟩)
          refine ⟨rfl, openPost_bad (Rest.valid_no 1 (riderOk_no (by rw [hPP'.out]; exact hO'.out))) ?_⟩
          exact below_via hb2 (below_alloc hbw _)
        · have hO' := hid hO
          clear hO
          go_wp2
          refine wp_region_later_tail 7 (by kernel_rfl) (by kernel_rfl) ?_
          intro hx
          simp only [List.take_succ_cons, List.take_zero, List.drop_succ_cons, List.drop_zero]
          repeat (any_goals (first | go_big_quiet_step ((go_at_call 46; exact Calls.later_same ((within_any _ _ _ _).mono fun e w' ⟨he, hw⟩ => ⟨he.trans (congrArg (fun b => Ending.returned (.bool b)) hO'.out), hw⟩)))))
          refine wpQuiet_nil ?_
          rintro w2 ⟨x, hxw⟩
          have hb2 := x.below
          rw [← hxw] at hb2
          clear hx hxw x
          have hbw2 : Below w.heap.size w w2 := below_via hb2 (below_alloc hbw _)
          have hk2 := hb.trans ((((Below.refl _ wr).alloc (Nat.le_refl _) _).trans (hb2.mono (by simp))).mono hb.size)
          obtain ⟨hc2, hf2⟩ := bcell hb2
          go_wp2_with (go_at_call 72; refine (must_yes _ _).mono ?_; rintro e w' ⟨rfl, rfl⟩)
          go_loopw [33] (fun i wr2 => ∃ m : Nat, m ≤ 3 ∧ i = .int .i64 m ∧ Hid (∀ j, j < m → inB (Rider.num R.r1 j) 0 16 = true) ∧ wr2 = w2) (fun i _ => 3 - (intOf i).toNat)
          case atStart => exact ⟨0, by omega, rfl, hid (by omega), rfl⟩
          case round =>
            obtain ⟨m, hm, rfl, hjm, rfl⟩ := hrel
            obtain rfl | rfl | rfl | rfl : m = 0 ∨ m = 1 ∨ m = 2 ∨ m = 3 := by omega
            · have i118 := index118_0
              cases hN : inB (Rider.num R.r1 0) 0 16
              all_goals
                have hN' := hid hN
                clear hN
              · go_wp2_with (first | (go_at_call 46; refine (within_any _ _ _ _).mono ?_; rw [show inB R.r1.total 0 16 = false from hN'.out]; rintro e w' ⟨rfl, rfl⟩) | (go_at_call 72; refine (must_no _ _).mono ?_; rintro e w' ⟨rfl, rfl⟩))
                exact ⟨rfl, openPost_bad (Rest.valid_no 1 (riderOk_no' 0 hN'.out)) hbw2⟩
              · go_wp2_with (first | (go_at_call 46; refine (within_any _ _ _ _).mono ?_; rw [show inB R.r1.total 0 16 = true from hN'.out]; rintro e w' ⟨rfl, rfl⟩) | (go_at_call 72; refine (must_yes _ _).mono ?_; rintro e w' ⟨rfl, rfl⟩))
                go_roundw
                case rel =>
                  refine ⟨1, by omega, by go_num, ?_, by simp⟩
                  intro j hj
                  by_cases hjk : j < 0
                  · exact hjm.out j hjk
                  · obtain rfl : j = 0 := by omega
                    exact hN'.out
                case measure => simp [intOf]
            · have i118 := index118_1
              cases hN : inB (Rider.num R.r1 1) 0 16
              all_goals
                have hN' := hid hN
                clear hN
              · go_wp2_with (first | (go_at_call 46; refine (within_any _ _ _ _).mono ?_; rw [show inB R.r1.run 0 16 = false from hN'.out]; rintro e w' ⟨rfl, rfl⟩) | (go_at_call 72; refine (must_no _ _).mono ?_; rintro e w' ⟨rfl, rfl⟩))
                exact ⟨rfl, openPost_bad (Rest.valid_no 1 (riderOk_no' 1 hN'.out)) hbw2⟩
              · go_wp2_with (first | (go_at_call 46; refine (within_any _ _ _ _).mono ?_; rw [show inB R.r1.run 0 16 = true from hN'.out]; rintro e w' ⟨rfl, rfl⟩) | (go_at_call 72; refine (must_yes _ _).mono ?_; rintro e w' ⟨rfl, rfl⟩))
                go_roundw
                case rel =>
                  refine ⟨2, by omega, by go_num, ?_, by simp⟩
                  intro j hj
                  by_cases hjk : j < 1
                  · exact hjm.out j hjk
                  · obtain rfl : j = 1 := by omega
                    exact hN'.out
                case measure => simp [intOf]
            · have i118 := index118_2
              cases hN : inB (Rider.num R.r1 2) 0 16
              all_goals
                have hN' := hid hN
                clear hN
              · go_wp2_with (first | (go_at_call 46; refine (within_any _ _ _ _).mono ?_; rw [show inB R.r1.off 0 16 = false from hN'.out]; rintro e w' ⟨rfl, rfl⟩) | (go_at_call 72; refine (must_no _ _).mono ?_; rintro e w' ⟨rfl, rfl⟩))
                exact ⟨rfl, openPost_bad (Rest.valid_no 1 (riderOk_no' 2 hN'.out)) hbw2⟩
              · go_wp2_with (first | (go_at_call 46; refine (within_any _ _ _ _).mono ?_; rw [show inB R.r1.off 0 16 = true from hN'.out]; rintro e w' ⟨rfl, rfl⟩) | (go_at_call 72; refine (must_yes _ _).mono ?_; rintro e w' ⟨rfl, rfl⟩))
                go_roundw
                case rel =>
                  refine ⟨3, by omega, by go_num, ?_, by simp⟩
                  intro j hj
                  by_cases hjk : j < 2
                  · exact hjm.out j hjk
                  · obtain rfl : j = 2 := by omega
                    exact hN'.out
                case measure => simp [intOf]
            · go_wp2
              go_roundw
              case rel =>
                refine ⟨2, by omega, by go_num, ?_, hk2⟩
                intro j hj
                by_cases hjk : j < 1
                · exact hjo.out j hjk
                · obtain rfl : j = 1 := by omega
                  exact riderOk_of (by rw [hPP'.out]; exact hO'.out) hjm.out
              case measure => simp [intOf]
      · have hV : R.valid = true := by
          have h0 := hjo.out 0 (by omega); have h1 := hjo.out 1 (by omega)
          simp only [Rest.nth] at h0 h1
          simp [Rest.valid, hH'.out, h0, h1]
        have hV' := hid hV
        have hI := his'.out hV
        clear hV
        go_wp2_with fail
        refine (hI _ hbw).mono ?_
        rintro e w4 ⟨rfl, hb4⟩
        have hbw4 : Below w.heap.size w w4 := below_via hb4 hbw
        obtain ⟨hc4, hf4⟩ := bcell hb4
        have hsz4 : w.heap.size < w4.heap.size := by have := hb4.size; omega
        cases b
        · go_wp2_with (go_at_call 72; refine (must_no _ _).mono ?_; rintro e w' ⟨rfl, rfl⟩)
          exact ⟨rfl, openPost_range hV'.out hbw4⟩
        · go_wp2_with (go_at_call 72; refine (must_yes _ _).mono ?_; rintro e w' ⟨rfl, rfl⟩)
          refine wp_region_later_tail 3 (by kernel_rfl) (by kernel_rfl) ?_
          intro hx
          simp only [List.take_succ_cons, List.take_zero, List.drop_succ_cons, List.drop_zero]
          repeat (any_goals (first | go_big_quiet_step ((go_at_call 80; exact Calls.later (rules_any _))) | quiet_step ((go_at_call 80; exact Calls.later (rules_any _)))))
          refine wpQuiet_nil ?_
          rintro w2 ⟨x, hxw⟩
          have hb2 := x.below
          rw [← hxw] at hb2
          clear hx hxw x
          have hbw2 : Below w.heap.size w w2 := below_via hb2 hbw4
          go_wp2
          go_ret
          refine openPost_ok hV'.out (below_alloc hbw2 _) hbw2.size ?_
          exact (MapKept.heap_alloc _ _).1

/-- 'open' of a rest that is valid, where all else is. -/
def OpenedAt (R : Rest) (w : World) (e : Ending) (w' : World) : Prop :=
  ∃ rb, e = .returned (.pointer (some ⟨rb, 0, none⟩)) ∧ w.heap.size ≤ rb ∧ w'.heap[rb]? = some (.cells (restCells R) 82 (0, 0)) ∧ Below w.heap.size w w'

theorem openPost_valid {R : Rest} {w w' : World} {e : Ending} (hv : R.valid = true) (h : OpenPost R true w e w') : OpenedAt R w e w' := by
  obtain ⟨hb, h⟩ := h
  rw [if_pos hv, if_pos rfl] at h
  obtain ⟨rb, h1, h2, h3⟩ := h
  exact ⟨rb, h1, h2, h3, hb⟩

theorem openPost_arg {R : Rest} {b : Bool} {w w' : World} {e : Ending} (hv : R.valid = false) (h : OpenPost R b w e w') : e = .panicked [{ v := failV 1, recovered := false }] ∧ Below w.heap.size w w' := by
  obtain ⟨hb, h⟩ := h
  rw [if_neg (by rw [hv]; exact Bool.false_ne_true)] at h
  exact ⟨h, hb⟩

theorem openPost_rng {R : Rest} {w w' : World} {e : Ending} (hv : R.valid = true) (h : OpenPost R false w e w') : e = .panicked [{ v := failV 2, recovered := false }] ∧ Below w.heap.size w w' := by
  obtain ⟨hb, h⟩ := h
  rw [if_pos hv, if_neg Bool.false_ne_true] at h
  exact ⟨h, hb⟩

end Go.Proofs.Ytkgdejhooghknaa
