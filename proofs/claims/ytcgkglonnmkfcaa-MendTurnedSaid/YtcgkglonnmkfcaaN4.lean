/- The walk of 'open' of package mend. -/
import Derived.Test.YtcgkglonnmkfcaaGN
namespace Go.Proofs.Ytcgkglonnmkfcaa
open Go.RowKit Go.Lap

/-- How 'open' ends: where the shop lies, or which panic it is. -/
def OpenPost (M : Mend) (sv jv : Value) (b : Bool) (w : World) (e : Ending) (w' : World) : Prop :=
  Below w.heap.size w w' ∧
  if M.valid then
    if b then ∃ sb, e = .returned (.pointer (some ⟨sb, 0, none⟩)) ∧ w.heap.size ≤ sb ∧ w'.heap[sb]? = some (.cells #[sv, jv, .int .u64 0] 103 (0, 0))
    else e = .panicked [{ v := failV 2, recovered := false }]
  else e = .panicked [{ v := failV 1, recovered := false }]

theorem openPost_bad {M : Mend} {sv jv : Value} {b : Bool} {w w' : World} (h : M.valid = false) (hb : Below w.heap.size w w') : OpenPost M sv jv b w (.panicked [{ v := failV 1, recovered := false }]) w' := by
  refine ⟨hb, ?_⟩
  rw [h]; simp
theorem openPost_ok {M : Mend} {sv jv : Value} {w w' : World} {sb : Nat} (h : M.valid = true) (hb : Below w.heap.size w w') (h1 : w.heap.size ≤ sb) (h2 : w'.heap[sb]? = some (.cells #[sv, jv, .int .u64 0] 103 (0, 0))) :
    OpenPost M sv jv true w (.returned (.pointer (some ⟨sb, 0, none⟩))) w' := by
  refine ⟨hb, ?_⟩
  rw [if_pos h, if_pos rfl]; exact ⟨sb, rfl, h1, h2⟩
theorem openPost_range {M : Mend} {sv jv : Value} {w w' : World} (h : M.valid = true) (hb : Below w.heap.size w w') : OpenPost M sv jv false w (.panicked [{ v := failV 2, recovered := false }]) w' := by
  refine ⟨hb, ?_⟩
  rw [if_pos h]; simp

theorem index108_0 (a b c : Value) (w : World) : (Instr.index 108 (.agg #[a, b, c]) (.int .i64 0)).run Try.prog w = .ok a w := by kernel_rfl
theorem index108_1 (a b c : Value) (w : World) : (Instr.index 108 (.agg #[a, b, c]) (.int .i64 1)).run Try.prog w = .ok b w := by kernel_rfl
theorem index108_2 (a b c : Value) (w : World) : (Instr.index 108 (.agg #[a, b, c]) (.int .i64 2)).run Try.prog w = .ok c w := by kernel_rfl

theorem valid_no_size {M : Mend} (h : M.sizes = false) : M.valid = false := by simp [Mend.valid, h]
theorem valid_no_set {M : Mend} {k : Nat} (hk : k < M.setup.length) (h : inB (M.setup.getD k 0) 0 30 = false) : M.valid = false := by
  have : (M.setup.all fun x => inB x 0 30) = false := by
    rw [List.all_eq_false]
    refine ⟨M.setup.getD k 0, ?_, by rw [h]; simp⟩
    rw [List.getD_eq_getElem?_getD, List.getElem?_eq_getElem hk]
    exact List.getElem_mem _
  simp [Mend.valid, this]
theorem valid_no_job {M : Mend} {k : Nat} (hk : k < M.jobs.length) (h : (M.job k).ok M.setup.length M.jobs.length k = false) : M.valid = false := by
  have : ((List.range M.jobs.length).all fun i => (M.job i).ok M.setup.length M.jobs.length i) = false := by
    rw [List.all_eq_false]
    exact ⟨k, List.mem_range.2 hk, by simp [h]⟩
  simp [Mend.valid, this]
theorem valid_yes {M : Mend} (h1 : M.sizes = true) (h2 : ∀ k, k < M.setup.length → inB (M.setup.getD k 0) 0 30 = true) (h3 : ∀ k, k < M.jobs.length → (M.job k).ok M.setup.length M.jobs.length k = true) : M.valid = true := by
  simp only [Mend.valid, h1, Bool.true_and, Bool.and_eq_true]
  refine ⟨List.all_eq_true.2 fun x hx => ?_, List.all_eq_true.2 fun k hk => h3 k (List.mem_range.1 hk)⟩
  obtain ⟨k, hk, rfl⟩ := List.getElem_of_mem hx
  have := h2 k hk
  rwa [List.getD_eq_getElem?_getD, List.getElem?_eq_getElem hk] at this
theorem shl_len {n : Nat} (h : n ≤ 6) : wrap64 ((2 : Int) ^ n) = 2 ^ n ∧ wrap64 ((2 : Int) ^ n - 1) = 2 ^ n - 1 := by
  have h1 := two_pow_le h
  have h2 : (0 : Int) < 2 ^ n := Int.pow_pos (by decide)
  exact ⟨IntWalk.wrap64_in _ (by omega), IntWalk.wrap64_in _ (by omega)⟩
theorem shr_bit {x : Int} (h : 0 ≤ x) (i : Nat) : x / 2 ^ i % 2 = if x.toNat.testBit i then 1 else 0 := by
  obtain ⟨n, rfl⟩ := Int.eq_ofNat_of_zero_le h
  rw [Int.toNat_natCast, Nat.testBit, Nat.and_comm, Nat.and_one_is_mod, show (n : Int) / 2 ^ i = ((n >>> i : Nat) : Int) by rw [Nat.shiftRight_eq_div_pow]; simp]
  have e : ((n >>> i : Nat) : Int) % 2 = ((n >>> i % 2 : Nat) : Int) := by omega
  rw [e]
  rcases Nat.mod_two_eq_zero_or_one (n >>> i) with h | h <;> simp [h]

set_option maxRecDepth 100000 in
set_option maxHeartbeats 4000000 in
theorem open_any (M : Mend) (b : Bool) (f : Nat) (cap : Array Value) (sv jv : Value) (w : World) (hS : IntsAt w sv M.setup) (hJ : JobsAt w jv M.jobs) (hf : ∀ args w, (callFunc f args).run Try.prog w = .ok (.enter f args) w)
    (his : M.valid = true → ∀ w', Below w.heap.size w w' → Calls Try.prog f cap w' fun e w'' => e = .returned (.bool b) ∧ Below w'.heap.size w' w'') :
    Calls Try.prog 47 #[.agg #[sv, jv], .func (.func f) #[] cap] w (OpenPost M sv jv b w) := by
  have his' := hid his
  clear his
  obtain ⟨sa, scap, rfl, hs⟩ := hS
  obtain ⟨ja, jcap, rfl, hj⟩ := hJ
  have hs' := hid hs
  have hj' := hid hj
  clear hs hj
  by_cases h3 : M.setup.length ≤ 3
  · by_cases h6 : M.jobs.length ≤ 6
    · have hsz : Hid (M.sizes = true) := hid (by simp [Mend.sizes, h3, h6])
      have h3i : (M.setup.length : Int) ≤ 3 := by omega
      have h6i : (M.jobs.length : Int) ≤ 6 := by omega
      go_enter Try.func47, Try.ntmps47
      go_wp2_with (first | (go_at_call 52; with_reducible refine (must_yes _ _).mono ?_; rintro e w' ⟨rfl, rfl⟩))
      have hx := alloc_at (w := w) (o := .cells #[.slice sa M.setup.length scap, .slice ja M.jobs.length jcap] 25) rfl
      have hb0 := below_alloc (Below.refl _ w) (.cells #[.slice sa M.setup.length scap, .slice ja M.jobs.length jcap] 25)
      generalize w.alloc (.cells #[.slice sa M.setup.length scap, .slice ja M.jobs.length jcap] 25) = w0 at hx hb0 ⊢
      obtain ⟨lx, cx⟩ := cells_of hx
      obtain ⟨hc0, hf0⟩ := bcell hb0
      go_loopw [6, 25] (fun _ i wr => ∃ k : Nat, k ≤ M.setup.length ∧ i = .int .i64 k ∧ Hid (∀ j, j < k → inB (M.setup.getD j 0) 0 30 = true) ∧ w0 = wr) (fun _ i _ => M.setup.length - (intOf i).toNat)
      case atStart => exact ⟨0, by omega, rfl, hid (by omega), rfl⟩
      case round =>
        obtain ⟨k, hk, rfl, hjk, rfl⟩ := hrel
        by_cases hlt : k < M.setup.length
        · obtain ⟨s1, so, rfl, hc⟩ := hs'.out (fun h => by rw [h] at hlt; simp at hlt)
          have hck := (hc0 s1 (so + k) (cell_lt (hc k hlt))).trans (hc k hlt)
          have l1 := Nat.lt_of_lt_of_le (cell_lt (hc k hlt)) hb0.size
          clear hc
          cases hN : inB (M.setup.getD k 0) 0 30
          all_goals
            have hN' := hid hN
            clear hN
            obtain ⟨v, hv⟩ : ∃ v, M.setup.getD k 0 = v := ⟨_, rfl⟩
            have hv' := hid hv
            rw [hv] at hck
            clear hv
          · go_wp2_with (first | (go_at_call 76; with_reducible refine (within_any _ _ _ _).mono ?_; rw [show inB v 0 30 = false by rw [← hv'.out]; exact hN'.out]; rintro e w' ⟨rfl, rfl⟩) | (go_at_call 52; with_reducible refine (must_no _ _).mono ?_; rintro e w' ⟨rfl, rfl⟩))
            exact ⟨rfl, openPost_bad (valid_no_set hlt hN'.out) hb0⟩
          · go_wp2_with (first | (go_at_call 76; with_reducible refine (within_any _ _ _ _).mono ?_; rw [show inB v 0 30 = true by rw [← hv'.out]; exact hN'.out]; rintro e w' ⟨rfl, rfl⟩) | (go_at_call 52; with_reducible refine (must_yes _ _).mono ?_; rintro e w' ⟨rfl, rfl⟩))
            go_roundw
            case rel =>
              refine ⟨k + 1, by omega, by go_num, hid ?_, by simp⟩
              intro j hj
              by_cases hjk2 : j < k
              · exact hjk.out j hjk2
              · obtain rfl : j = k := by omega
                exact hN'.out
            case measure => simp [intOf]; omega
        · obtain rfl : k = M.setup.length := by omega
          have e1 : IntKind.i64.wrap ((M.setup.length : Int) - 1) = (M.setup.length : Int) - 1 := IntWalk.i64_in _ (by omega)
          go_wp2
          go_loopw [7, 8, 10, 36] (fun _ _ _ i wr => ∃ k : Nat, k ≤ M.jobs.length ∧ i = .int .i64 k ∧ Hid (∀ j, j < k → (M.job j).ok M.setup.length M.jobs.length j = true) ∧ Below w0.heap.size w0 wr) (fun _ _ _ i _ => M.jobs.length - (intOf i).toNat)
          case atStart => exact ⟨0, by omega, rfl, hid (by omega), Below.refl _ _⟩
          case round =>
            obtain ⟨k, hk, rfl, hjo, hbr⟩ := hrel
            have hbw := below_via hbr hb0
            obtain ⟨hcr, hfr⟩ := bcell hbr
            have lxr := Nat.lt_of_lt_of_le lx hbr.size
            by_cases hlt : k < M.jobs.length
            · obtain ⟨j1, jo, rfl, hjc⟩ := hj'.out (fun h => by rw [h] at hlt; simp at hlt)
              have lj0 := cell_lt (hjc k hlt 0 (by decide))
              have lj1 := Nat.lt_of_lt_of_le lj0 hbw.size
              have hq : ∀ f, f < 8 → wr.cell? ⟨j1, jo + k * 8 + f, none⟩ = some (.int .i64 ((M.job k).cells.getD f 0)) := fun f hf => (hbw.cell (p := ⟨j1, jo + k * 8 + f, none⟩) lj0).trans (hjc k hlt f hf)
              clear hjc
              obtain ⟨j, hjd⟩ : ∃ j, M.job k = j := ⟨_, rfl⟩
              have hjd' := hid hjd
              rw [hjd] at hq
              clear hjd
              have hc0 := hq 0 (by decide)
              have hc1 := hq 1 (by decide)
              have hc2 := hq 2 (by decide)
              have hc3 := hq 3 (by decide)
              have hc4 := hq 4 (by decide)
              have hc5 := hq 5 (by decide)
              have hc6 := hq 6 (by decide)
              have hc7 := hq 7 (by decide)
              simp only [Job.cells, List.getD_cons_zero, List.getD_cons_succ, Nat.add_zero] at hc0 hc1 hc2 hc3 hc4 hc5 hc6 hc7
              clear hq
              have hki : (k : Int) < (M.jobs.length : Int) := by omega
              cases hA1 : inB j.kind 0 ((M.setup.length : Int) - 1)
              · have hA1' := hid hA1
                clear hA1
                go_wp2_with (first | (go_at_call 76; with_reducible refine (within_any _ _ _ _).mono ?_; rw [hA1'.out]; rintro e w' ⟨rfl, rfl⟩) | (go_at_call 52; with_reducible refine (must_no _ _).mono ?_; rintro e w' ⟨rfl, rfl⟩))
                exact ⟨rfl, openPost_bad (valid_no_job hlt (by rw [hjd'.out]; simp [Job.ok, Job.okA, hA1'.out])) (below_alloc hbw _)⟩
              · have hA1' := hid hA1
                clear hA1
                cases hA2 : inB j.lo 1 j.hi
                · have hA2' := hid hA2
                  clear hA2
                  go_wp2_with (first | (go_at_call 76; with_reducible refine (within_any _ _ _ _).mono ?_; rw [hA1'.out]; rintro e w' ⟨rfl, rfl⟩) | (go_at_call 76; with_reducible refine (within_any _ _ _ _).mono ?_; rw [hA2'.out]; rintro e w' ⟨rfl, rfl⟩) | (go_at_call 52; with_reducible refine (must_no _ _).mono ?_; rintro e w' ⟨rfl, rfl⟩))
                  exact ⟨rfl, openPost_bad (valid_no_job hlt (by rw [hjd'.out]; simp [Job.ok, Job.okA, hA2'.out])) (below_alloc hbw _)⟩
                · have hA2' := hid hA2
                  clear hA2
                  cases hA3 : decide (j.hi ≤ 30)
                  · have hA3' := hid hA3
                    go_wp2_with (first | (go_at_call 76; with_reducible refine (within_any _ _ _ _).mono ?_; rw [hA1'.out]; rintro e w' ⟨rfl, rfl⟩) | (go_at_call 76; with_reducible refine (within_any _ _ _ _).mono ?_; rw [hA2'.out]; rintro e w' ⟨rfl, rfl⟩) | (go_at_call 52; with_reducible refine (must_no _ _).mono ?_; rintro e w' ⟨rfl, rfl⟩))
                    exact ⟨rfl, openPost_bad (valid_no_job hlt (by rw [hjd'.out]; simp only [Job.ok, Job.okA, hA3'.out, Bool.and_false, Bool.false_and])) (below_alloc hbw _)⟩
                  · have hA3' := hid hA3
                    have hA : Hid (j.okA M.setup.length = true) := hid (by simp only [Job.okA, hA1'.out, hA2'.out, hA3'.out, Bool.and_true])
                    go_wp2_with (first | (go_at_call 76; with_reducible refine (within_any _ _ _ _).mono ?_; rw [hA1'.out]; rintro e w' ⟨rfl, rfl⟩) | (go_at_call 76; with_reducible refine (within_any _ _ _ _).mono ?_; rw [hA2'.out]; rintro e w' ⟨rfl, rfl⟩) | (go_at_call 52; with_reducible refine (must_yes _ _).mono ?_; rintro e w' ⟨rfl, rfl⟩))
                    clear hA3
                    have hbx := alloc_at (w := wr) (o := (.cells #[.int .i64 j.kind, .int .i64 j.lo, .int .i64 j.hi, .int .i64 j.from_, .int .i64 j.soft, .int .i64 j.by_, .int .i64 j.cost, .int .i64 j.after] 48)) rfl
                    have hb2 := below_alloc (Below.refl _ wr) (.cells #[.int .i64 j.kind, .int .i64 j.lo, .int .i64 j.hi, .int .i64 j.from_, .int .i64 j.soft, .int .i64 j.by_, .int .i64 j.cost, .int .i64 j.after] 48)
                    generalize wr.alloc (.cells #[.int .i64 j.kind, .int .i64 j.lo, .int .i64 j.hi, .int .i64 j.from_, .int .i64 j.soft, .int .i64 j.by_, .int .i64 j.cost, .int .i64 j.after] 48) = w2 at hbx hb2 ⊢
                    obtain ⟨lbx, cbx⟩ := cells_of hbx
                    have hbr2 := below_via hb2 hbr
                    have hbw2 := below_via hb2 hbw
                    clear hcr hfr hc0 hc1 hc2 hc3 hc4 hc5 hc6 hc7
                    obtain ⟨hcr, hfr⟩ := bcell hbr2
                    have lxr2 := Nat.lt_of_lt_of_le lx hbr2.size
                    go_loopw [10, 71] (fun _ i wr2 => ∃ m : Int, (m = 0 ∨ m = 1 ∨ m = 2 ∨ m = 3) ∧ i = .int .i64 m ∧ Hid (∀ q : Nat, (q : Int) < m → inB (j.num q) 0 300 = true) ∧ w2 = wr2) (fun _ i _ => 3 - (intOf i).toNat)
                    case atStart => exact ⟨0, .inl rfl, rfl, hid (by omega), rfl⟩
                    case round =>
                      obtain ⟨m, hm, rfl, hjm, rfl⟩ := hrel
                      rcases hm with rfl | rfl | rfl | rfl
                      · have i108 := index108_0 (.int .i64 j.from_) (.int .i64 j.soft) (.int .i64 j.by_)
                        cases hN : inB j.from_ 0 300
                        all_goals
                          have hN' := hid hN
                          clear hN
                        · go_wp2_with (first | (go_at_call 76; with_reducible refine (within_any _ _ _ _).mono ?_; rw [hN'.out]; rintro e w' ⟨rfl, rfl⟩) | (go_at_call 52; with_reducible refine (must_no _ _).mono ?_; rintro e w' ⟨rfl, rfl⟩))
                          exact ⟨rfl, openPost_bad (valid_no_job hlt (by rw [hjd'.out]; simp [Job.ok, Job.okB, hN'.out])) hbw2⟩
                        · go_wp2_with (first | (go_at_call 76; with_reducible refine (within_any _ _ _ _).mono ?_; rw [hN'.out]; rintro e w' ⟨rfl, rfl⟩) | (go_at_call 52; with_reducible refine (must_yes _ _).mono ?_; rintro e w' ⟨rfl, rfl⟩))
                          go_roundw
                          case rel =>
                            refine ⟨1, .inr (.inl rfl), by go_num, hid ?_, by simp⟩
                            intro q hq
                            by_cases hqm : (q : Int) < 0
                            · exact hjm.out q hqm
                            · obtain rfl : q = 0 := by omega
                              exact hN'.out
                          case measure => simp [intOf]
                      · have i108 := index108_1 (.int .i64 j.from_) (.int .i64 j.soft) (.int .i64 j.by_)
                        cases hN : inB j.soft 0 300
                        all_goals
                          have hN' := hid hN
                          clear hN
                        · go_wp2_with (first | (go_at_call 76; with_reducible refine (within_any _ _ _ _).mono ?_; rw [hN'.out]; rintro e w' ⟨rfl, rfl⟩) | (go_at_call 52; with_reducible refine (must_no _ _).mono ?_; rintro e w' ⟨rfl, rfl⟩))
                          exact ⟨rfl, openPost_bad (valid_no_job hlt (by rw [hjd'.out]; simp [Job.ok, Job.okB, hN'.out])) hbw2⟩
                        · go_wp2_with (first | (go_at_call 76; with_reducible refine (within_any _ _ _ _).mono ?_; rw [hN'.out]; rintro e w' ⟨rfl, rfl⟩) | (go_at_call 52; with_reducible refine (must_yes _ _).mono ?_; rintro e w' ⟨rfl, rfl⟩))
                          go_roundw
                          case rel =>
                            refine ⟨2, .inr (.inr (.inl rfl)), by go_num, hid ?_, by simp⟩
                            intro q hq
                            by_cases hqm : (q : Int) < 1
                            · exact hjm.out q hqm
                            · obtain rfl : q = 1 := by omega
                              exact hN'.out
                          case measure => simp [intOf]
                      · have i108 := index108_2 (.int .i64 j.from_) (.int .i64 j.soft) (.int .i64 j.by_)
                        cases hN : inB j.by_ 0 300
                        all_goals
                          have hN' := hid hN
                          clear hN
                        · go_wp2_with (first | (go_at_call 76; with_reducible refine (within_any _ _ _ _).mono ?_; rw [hN'.out]; rintro e w' ⟨rfl, rfl⟩) | (go_at_call 52; with_reducible refine (must_no _ _).mono ?_; rintro e w' ⟨rfl, rfl⟩))
                          exact ⟨rfl, openPost_bad (valid_no_job hlt (by rw [hjd'.out]; simp [Job.ok, Job.okB, hN'.out])) hbw2⟩
                        · go_wp2_with (first | (go_at_call 76; with_reducible refine (within_any _ _ _ _).mono ?_; rw [hN'.out]; rintro e w' ⟨rfl, rfl⟩) | (go_at_call 52; with_reducible refine (must_yes _ _).mono ?_; rintro e w' ⟨rfl, rfl⟩))
                          go_roundw
                          case rel =>
                            refine ⟨3, .inr (.inr (.inr rfl)), by go_num, hid ?_, by simp⟩
                            intro q hq
                            by_cases hqm : (q : Int) < 2
                            · exact hjm.out q hqm
                            · obtain rfl : q = 2 := by omega
                              exact hN'.out
                          case measure => simp [intOf]
                      · have hB : Hid (j.okB = true) := hid (by
                          have h0 := hjm.out 0 (by omega)
                          have h1 := hjm.out 1 (by omega)
                          have h2 := hjm.out 2 (by omega)
                          simp only [Job.num, List.getD_cons_zero, List.getD_cons_succ] at h0 h1 h2
                          simp [Job.okB, h0, h1, h2])
                        go_wp2
                        cases hC1 : inB j.cost 0 50
                        · have hC1' := hid hC1
                          clear hC1
                          refine wp_region_later_tail 21 (by kernel_rfl) (by kernel_rfl) ?_
                          intro hx
                          simp only [List.take_succ_cons, List.take_zero, List.drop_succ_cons, List.drop_zero]
                          repeat (any_goals (first | go_big_quiet_step ((go_at_call 76; exact Calls.later_same ((within_any _ _ _ _).mono fun e w' ⟨he, hw⟩ => ⟨he.trans (congrArg (fun b => Ending.returned (.bool b)) hC1'.out), hw⟩)))))
                          refine wpQuiet_nil ?_
                          rintro w3 ⟨x, hxw⟩
                          have hb3 := x.below
                          rw [← hxw] at hb3
                          clear hx hxw x
                          go_wp2_with (first | (go_at_call 52; with_reducible refine (must_no _ _).mono ?_; rintro e w' ⟨rfl, rfl⟩))
                          exact ⟨rfl, openPost_bad (valid_no_job hlt (by rw [hjd'.out]; simp [Job.ok, Job.okC, hC1'.out])) (below_via hb3 hbw2)⟩
                        · have hC1' := hid hC1
                          clear hC1
                          obtain ⟨P, hPP⟩ : ∃ P, (2 : Int) ^ M.jobs.length = P := ⟨_, rfl⟩
                          obtain ⟨hP1, hP2⟩ : wrap64 ((2 : Int) ^ M.jobs.length) = P ∧ wrap64 (P - 1) = P - 1 := by rw [← hPP]; exact shl_len h6
                          have hPP' := hid hPP
                          clear hPP
                          cases hC2 : inB j.after 0 (P - 1)
                          · have hC2' := hid hC2
                            clear hC2
                            refine wp_region_later_tail 21 (by kernel_rfl) (by kernel_rfl) ?_
                            intro hx
                            simp only [List.take_succ_cons, List.take_zero, List.drop_succ_cons, List.drop_zero]
                            repeat (any_goals (first | go_big_quiet_step ((go_at_call 76; first | exact Calls.later_same ((within_any _ _ _ _).mono fun e w' ⟨he, hw⟩ => ⟨he.trans (congrArg (fun b => Ending.returned (.bool b)) hC1'.out), hw⟩) | exact Calls.later_same ((within_any _ _ _ _).mono fun e w' ⟨he, hw⟩ => ⟨he.trans (congrArg (fun b => Ending.returned (.bool b)) hC2'.out), hw⟩)))))
                            refine wpQuiet_nil ?_
                            rintro w3 ⟨x, hxw⟩
                            have hb3 := x.below
                            rw [← hxw] at hb3
                            clear hx hxw x
                            go_wp2_with (first | (go_at_call 52; with_reducible refine (must_no _ _).mono ?_; rintro e w' ⟨rfl, rfl⟩))
                            exact ⟨rfl, openPost_bad (valid_no_job hlt (by rw [hjd'.out]; simp only [Job.ok, Job.okC, hPP'.out, hC2'.out, Bool.and_false, Bool.false_and])) (below_via hb3 hbw2)⟩
                          · have ha0 : 0 ≤ j.after := (inB_iff.1 hC2).1
                            have hbit := shr_bit ha0 k
                            clear ha0
                            have hC2' := hid hC2
                            clear hC2
                            cases hC3 : j.after.toNat.testBit k
                            all_goals
                              have hC3' := hid hC3
                              rw [hC3] at hbit
                              simp only [if_true, if_false, Bool.false_eq_true] at hbit
                              clear hC3
                              refine wp_region_later_tail 21 (by kernel_rfl) (by kernel_rfl) ?_
                              intro hx
                              simp only [List.take_succ_cons, List.take_zero, List.drop_succ_cons, List.drop_zero]
                              repeat (any_goals (first | go_big_quiet_step ((go_at_call 76; first | exact Calls.later_same ((within_any _ _ _ _).mono fun e w' ⟨he, hw⟩ => ⟨he.trans (congrArg (fun b => Ending.returned (.bool b)) hC1'.out), hw⟩) | exact Calls.later_same ((within_any _ _ _ _).mono fun e w' ⟨he, hw⟩ => ⟨he.trans (congrArg (fun b => Ending.returned (.bool b)) hC2'.out), hw⟩)))))
                              refine wpQuiet_nil ?_
                              rintro w3 ⟨x, hxw⟩
                              have hb3 := x.below
                              rw [← hxw] at hb3
                              clear hx hxw x
                            · go_wp2_with (first | (go_at_call 52; with_reducible refine (must_yes _ _).mono ?_; rintro e w' ⟨rfl, rfl⟩))
                              go_roundw
                              case rel =>
                                refine ⟨k + 1, by omega, by go_num, hid ?_, below_via hb3 hbr2⟩
                                intro q hq
                                by_cases hqk : q < k
                                · exact hjo.out q hqk
                                · obtain rfl : q = k := by omega
                                  rw [hjd'.out]
                                  simp only [Job.ok, hA.out, hB.out, Job.okC, hPP'.out, hC1'.out, hC2'.out, hC3'.out, Bool.and_true, Bool.not_false]
                              case measure => simp [intOf]; omega
                            · go_wp2_with (first | (go_at_call 52; with_reducible refine (must_no _ _).mono ?_; rintro e w' ⟨rfl, rfl⟩))
                              exact ⟨rfl, openPost_bad (valid_no_job hlt (by rw [hjd'.out]; simp only [Job.ok, Job.okC, hC3'.out, Bool.and_false, Bool.not_true])) (below_via hb3 hbw2)⟩
            · obtain rfl : k = M.jobs.length := by omega
              have hV := valid_yes hsz.out hjk.out hjo.out
              have hV' := hid hV
              have hI := his'.out hV
              clear hV
              have lxr2 := Nat.lt_of_lt_of_le lx hbr.size
              go_wp2_with fail
              refine (hI _ hbw).mono ?_
              rintro e w4 ⟨rfl, hb4⟩
              have hbw4 := below_via hb4 hbw
              have hbr4 := below_via hb4 hbr
              obtain ⟨hc4, hf4⟩ := bcell hbr4
              have lx4 := Nat.lt_of_lt_of_le lx hbr4.size
              cases b
              · go_wp2_with (first | (go_at_call 52; with_reducible refine (must_no _ _).mono ?_; rintro e w' ⟨rfl, rfl⟩))
                exact ⟨rfl, openPost_range hV'.out hbw4⟩
              · go_wp2_with (first | (go_at_call 52; with_reducible refine (must_yes _ _).mono ?_; rintro e w' ⟨rfl, rfl⟩))
                go_ret
                exact openPost_ok hV'.out (below_alloc hbw4 _) hbw4.size (MapKept.heap_alloc _ _).1
    · have hsz : Hid (M.sizes = false) := hid (by simp [Mend.sizes, h6])
      have h3i : (M.setup.length : Int) ≤ 3 := by omega
      have h6i : ¬ (M.jobs.length : Int) ≤ 6 := by omega
      go_enter Try.func47, Try.ntmps47
      go_wp2_with (first | (go_at_call 52; with_reducible refine (must_no _ _).mono ?_; rintro e w' ⟨rfl, rfl⟩))
      exact ⟨rfl, openPost_bad (valid_no_size hsz.out) (below_alloc (Below.refl _ _) _)⟩
  · have hsz : Hid (M.sizes = false) := hid (by simp [Mend.sizes, h3])
    have h3i : ¬ (M.setup.length : Int) ≤ 3 := by omega
    go_enter Try.func47, Try.ntmps47
    go_wp2_with (first | (go_at_call 52; with_reducible refine (must_no _ _).mono ?_; rintro e w' ⟨rfl, rfl⟩))
    exact ⟨rfl, openPost_bad (valid_no_size hsz.out) (below_alloc (Below.refl _ _) _)⟩

end Go.Proofs.Ytcgkglonnmkfcaa
