/- The walks of the reference's 'in', 'power', 'Has', and 'Mend'. -/
import Derived.Test.YtcgkglonnmkfcaaN4
namespace Go.Proofs.Ytcgkglonnmkfcaa
open Go.RowKit Go.Lap

set_option maxHeartbeats 400000 in
theorem in_any (n lo hi : Int) (w : World) :
    Calls Try.prog 63 #[.int .i64 n, .int .i64 lo, .int .i64 hi] w fun e w' => e = .returned (.bool (inB n lo hi)) ∧ w' = w := by
  by_cases h1 : lo ≤ n
  · go_enter Try.func63, Try.ntmps63
    go_wp2
    go_ret
    exact ⟨by simp [inB, h1], rfl⟩
  · go_enter Try.func63, Try.ntmps63
    go_wp2
    go_ret
    exact ⟨by have h2 : ¬ lo ≤ n := by omega
              simp [inB, h2], rfl⟩
theorem in_as {n lo hi : Int} {b : Bool} (h : inB n lo hi = b) (w : World) :
    Calls Try.prog 63 #[.int .i64 n, .int .i64 lo, .int .i64 hi] w fun e w' => e = .returned (.bool b) ∧ w' = w := by
  subst h; exact in_any n lo hi w

set_option maxHeartbeats 1000000 in
theorem power_any (n : Nat) (h1 : n ≤ 62) (w : World) : Calls Try.prog 62 #[.int .i64 n] w fun e w' => e = .returned (.int .i64 (2 ^ n)) ∧ w' = w := by
  go_enter Try.func62, Try.ntmps62
  go_wp2
  go_loopw [3, 4] (fun x i wr => ∃ k : Nat, k ≤ n ∧ i = .int .i64 k ∧ x = .int .i64 (2 ^ k) ∧ Hid (wr = w)) (fun _ i _ => n - (intOf i).toNat)
  case atStart => exact ⟨0, by omega, rfl, rfl, hid rfl⟩
  case round =>
    obtain ⟨k, hk, rfl, rfl, hw⟩ := hrel
    have h5 : (0 : Int) < 2 ^ k := Int.pow_pos (by decide)
    by_cases hlt : k < n
    · have h4 : (2 : Int) ^ (k + 1) ≤ 2 ^ 62 := two_pow_le (by omega)
      have h6 : (2 : Int) * 2 ^ k ≤ 4611686018427387904 := by
        rw [Int.pow_succ] at h4; omega
      have h7 : IntKind.i64.wrap (2 * 2 ^ k) = 2 * 2 ^ k := IntWalk.i64_in _ (by omega)
      generalize hp : (2 : Int) ^ k = p at *
      have hp' := hid hp
      clear hp h4 h5
      go_wp2
      go_roundw
      case rel =>
        refine ⟨k + 1, by omega, by go_num, ?_, hw⟩
        rw [Int.pow_succ, hp'.out, Int.mul_comm]
      case measure => simp [intOf]; omega
    · obtain rfl : k = n := by omega
      clear h5
      go_wp2
      go_ret
      exact ⟨rfl, hw.out⟩

set_option maxHeartbeats 1000000 in
theorem has_any (s : Int) (n : Nat) (hs : 0 ≤ s) (hs1 : s ≤ 65535) (h1 : n ≤ 62) (w : World) : Calls Try.prog 61 #[.int .i64 s, .int .i64 n] w fun e w' => e = .returned (.bool (s.toNat.testBit n)) ∧ w' = w := by
  have hp : (0 : Int) < 2 ^ n := Int.pow_pos (by decide)
  have hv : s.toNat.testBit n = (s / 2 ^ n % 2 == 1) := by
    rw [shr_bit hs n]
    cases s.toNat.testBit n <;> rfl
  rw [hv]
  obtain ⟨p, hpe⟩ : ∃ p : Int, p = 2 ^ n := ⟨_, rfl⟩
  have hp2 : 0 < p := by rw [hpe]; exact hp
  have hq : 0 ≤ s / p := Int.ediv_nonneg hs (by omega)
  have hle : s / p ≤ s := Int.ediv_le_self _ hs
  have c62' := hid (fun w => (show Calls Try.prog 62 #[.int .i64 n] w fun e w' => e = .returned (.int .i64 p) ∧ w' = w by rw [hpe]; exact power_any n h1 w))
  rw [← hpe]
  have htd : s.tdiv p = s / p := Int.tdiv_eq_ediv_of_nonneg hs
  have hmd : (s / p).tmod 2 = s / p % 2 := Int.tmod_eq_emod_of_nonneg hq
  have hwr : wrap64 (s / p) = s / p := IntWalk.wrap64_in _ (by omega)
  clear hpe hp hv
  go_enter Try.func61, Try.ntmps61
  go_wp2_with (go_at_call 62; with_reducible refine (c62'.out _).mono ?_; rintro e w1 ⟨rfl, rfl⟩)
  go_ret
  exact ⟨rfl, rfl⟩
theorem has_as {s : Int} {n : Nat} {b : Bool} (h : s.toNat.testBit n = b) (hs : 0 ≤ s) (hs1 : s ≤ 65535) (h1 : n ≤ 62) (w : World) : Calls Try.prog 61 #[.int .i64 s, .int .i64 n] w fun e w' => e = .returned (.bool b) ∧ w' = w := by
  subst h; exact has_any s n hs hs1 h1 w

set_option maxRecDepth 100000 in
set_option maxHeartbeats 4000000 in
theorem refMend_any (M : Mend) (sv jv : Value) (w : World) (hS : IntsAt w sv M.setup) (hJ : JobsAt w jv M.jobs) :
    Calls Try.prog 25 #[.agg #[sv, jv]] w fun e w' => e = .returned (.bool M.valid) ∧ Below w.heap.size w w' := by
  obtain ⟨sa, scap, rfl, hs⟩ := hS
  obtain ⟨ja, jcap, rfl, hj⟩ := hJ
  have hs' := hid hs
  have hj' := hid hj
  clear hs hj
  by_cases h3 : M.setup.length ≤ 3
  · by_cases h6 : M.jobs.length ≤ 6
    · have hsz : Hid (M.sizes = true) := hid (by simp [Mend.sizes, h3, h6])
      have h3i : (M.setup.length : Int) ≤ 3 := by omega
      have h6i : (M.jobs.length : Int) ≤ 6 := by omega
      go_enter Try.func25, Try.ntmps25
      go_wp2
      have hx := alloc_at (w := w) (o := .cells #[.slice sa M.setup.length scap, .slice ja M.jobs.length jcap] 25) rfl
      have hb0 := below_alloc (Below.refl _ w) (.cells #[.slice sa M.setup.length scap, .slice ja M.jobs.length jcap] 25)
      generalize w.alloc (.cells #[.slice sa M.setup.length scap, .slice ja M.jobs.length jcap] 25) = w0 at hx hb0 ⊢
      obtain ⟨lx, cx⟩ := cells_of hx
      obtain ⟨hc0, hf0⟩ := bcell hb0
      go_loopw [3] (fun i wr => ∃ k : Nat, k ≤ M.setup.length ∧ i = .int .i64 k ∧ Hid (∀ j, j < k → inB (M.setup.getD j 0) 0 30 = true) ∧ w0 = wr) (fun i _ => M.setup.length - (intOf i).toNat)
      case atStart => exact ⟨0, by omega, rfl, hid (by omega), rfl⟩
      case round =>
        obtain ⟨k, hk, rfl, hjk, rfl⟩ := hrel
        by_cases hlt : k < M.setup.length
        · obtain ⟨s1, so, rfl, hc⟩ := hs'.out (fun h => by rw [h] at hlt; simp at hlt)
          have hck := (hc0 s1 (so + k) (cell_lt (hc k hlt))).trans (hc k hlt)
          have l1 := Nat.lt_of_lt_of_le (cell_lt (hc k hlt)) hb0.size
          clear hc
          cases hN : inB (M.setup.getD k 0) 0 30
          all_goals
            have hN' := hid hN
            clear hN
            obtain ⟨v, hv⟩ : ∃ v, M.setup.getD k 0 = v := ⟨_, rfl⟩
            have hv' := hid hv
            rw [hv] at hck
            clear hv
          · go_wp2_with (go_at_call 63; with_reducible refine (in_as (show inB v 0 30 = false by rw [← hv'.out]; exact hN'.out) _).mono ?_; rintro e w' ⟨rfl, rfl⟩)
            go_ret
            exact ⟨by rw [valid_no_set hlt hN'.out]; rfl, hb0⟩
          · go_wp2_with (go_at_call 63; with_reducible refine (in_as (show inB v 0 30 = true by rw [← hv'.out]; exact hN'.out) _).mono ?_; rintro e w' ⟨rfl, rfl⟩)
            go_roundw
            case rel =>
              refine ⟨k + 1, by omega, by go_num, hid ?_, by simp⟩
              intro j hj
              by_cases hjk2 : j < k
              · exact hjk.out j hjk2
              · obtain rfl : j = k := by omega
                exact hN'.out
            case measure => simp [intOf]; omega
        · obtain rfl : k = M.setup.length := by omega
          have e1 : IntKind.i64.wrap ((M.setup.length : Int) - 1) = (M.setup.length : Int) - 1 := IntWalk.i64_in _ (by omega)
          go_wp2
          go_loopw [4, 5] (fun i _ wr => ∃ k : Nat, k ≤ M.jobs.length ∧ i = .int .i64 k ∧ Hid (∀ j, j < k → (M.job j).ok M.setup.length M.jobs.length j = true) ∧ Below w0.heap.size w0 wr) (fun i _ _ => M.jobs.length - (intOf i).toNat)
          case atStart => exact ⟨0, by omega, rfl, hid (by omega), Below.refl _ _⟩
          case round =>
            obtain ⟨k, hk, rfl, hjo, hbr⟩ := hrel
            have hbw := below_via hbr hb0
            obtain ⟨hcr, hfr⟩ := bcell hbr
            have lxr := Nat.lt_of_lt_of_le lx hbr.size
            by_cases hlt : k < M.jobs.length
            · obtain ⟨j1, jo, rfl, hjc⟩ := hj'.out (fun h => by rw [h] at hlt; simp at hlt)
              have lj0 := cell_lt (hjc k hlt 0 (by decide))
              have lj1 := Nat.lt_of_lt_of_le lj0 hbw.size
              have hq : ∀ f, f < 8 → wr.cell? ⟨j1, jo + k * 8 + f, none⟩ = some (.int .i64 ((M.job k).cells.getD f 0)) := fun f hf => (hbw.cell (p := ⟨j1, jo + k * 8 + f, none⟩) lj0).trans (hjc k hlt f hf)
              clear hjc
              obtain ⟨j, hjd⟩ : ∃ j, M.job k = j := ⟨_, rfl⟩
              have hjd' := hid hjd
              rw [hjd] at hq
              clear hjd
              have hc0 := hq 0 (by decide)
              have hc1 := hq 1 (by decide)
              have hc2 := hq 2 (by decide)
              have hc3 := hq 3 (by decide)
              have hc4 := hq 4 (by decide)
              have hc5 := hq 5 (by decide)
              have hc6 := hq 6 (by decide)
              have hc7 := hq 7 (by decide)
              simp only [Job.cells, List.getD_cons_zero, List.getD_cons_succ, Nat.add_zero] at hc0 hc1 hc2 hc3 hc4 hc5 hc6 hc7
              clear hq
              have hki : (k : Int) < (M.jobs.length : Int) := by omega
              go_upto_region 12 with fail
              have hbx := alloc_at (w := wr) (o := (.cells #[.int .i64 j.kind, .int .i64 j.lo, .int .i64 j.hi, .int .i64 j.from_, .int .i64 j.soft, .int .i64 j.by_, .int .i64 j.cost, .int .i64 j.after] 48)) rfl
              have hb2 := below_alloc (Below.refl _ wr) (.cells #[.int .i64 j.kind, .int .i64 j.lo, .int .i64 j.hi, .int .i64 j.from_, .int .i64 j.soft, .int .i64 j.by_, .int .i64 j.cost, .int .i64 j.after] 48)
              generalize wr.alloc (.cells #[.int .i64 j.kind, .int .i64 j.lo, .int .i64 j.hi, .int .i64 j.from_, .int .i64 j.soft, .int .i64 j.by_, .int .i64 j.cost, .int .i64 j.after] 48) = w2 at hbx hb2 ⊢
              obtain ⟨lbx, cbx⟩ := cells_of hbx
              have hbr2 := below_via hb2 hbr
              have hbw2 := below_via hb2 hbw
              clear hcr hfr hc0 hc1 hc2 hc3 hc4 hc5 hc6 hc7
              obtain ⟨hcr, hfr⟩ := bcell hbr2
              have lxr2 := Nat.lt_of_lt_of_le lx hbr2.size
              cases hA1 : inB j.kind 0 ((M.setup.length : Int) - 1)
              · have hA1' := hid hA1
                clear hA1
                go_wp2_with (first | (go_at_call 63; with_reducible refine (in_as hA1'.out _).mono ?_; rintro e w' ⟨rfl, rfl⟩))
                go_ret
                exact ⟨by rw [valid_no_job hlt (by rw [hjd'.out]; simp only [Job.ok, Job.okA, hA1'.out, Bool.false_and])]; rfl, hbw2⟩
              · have hA1' := hid hA1
                clear hA1
                cases hA2 : inB j.lo 1 j.hi
                · have hA2' := hid hA2
                  clear hA2
                  go_wp2_with (first | (go_at_call 63; with_reducible refine (in_as hA1'.out _).mono ?_; rintro e w' ⟨rfl, rfl⟩) | (go_at_call 63; with_reducible refine (in_as hA2'.out _).mono ?_; rintro e w' ⟨rfl, rfl⟩))
                  go_ret
                  exact ⟨by rw [valid_no_job hlt (by rw [hjd'.out]; simp only [Job.ok, Job.okA, hA2'.out, Bool.and_false, Bool.false_and])]; rfl, hbw2⟩
                · have hA2' := hid hA2
                  clear hA2
                  cases hA3 : decide (j.hi ≤ 30)
                  · have hA3' := hid hA3
                    have h30 : ¬ j.hi ≤ 30 := by simpa using hA3
                    clear hA3
                    go_wp2_with (first | (go_at_call 63; with_reducible refine (in_as hA1'.out _).mono ?_; rintro e w' ⟨rfl, rfl⟩) | (go_at_call 63; with_reducible refine (in_as hA2'.out _).mono ?_; rintro e w' ⟨rfl, rfl⟩))
                    go_ret
                    exact ⟨by rw [valid_no_job hlt (by rw [hjd'.out]; simp only [Job.ok, Job.okA, hA3'.out, Bool.and_false, Bool.false_and])]; rfl, hbw2⟩
                  · have hA3' := hid hA3
                    have h30 : j.hi ≤ 30 := by simpa using hA3
                    clear hA3
                    cases hB1 : inB j.from_ 0 300
                    · have hB1' := hid hB1
                      clear hB1
                      go_wp2_with (first | (go_at_call 63; with_reducible refine (in_as hA1'.out _).mono ?_; rintro e w' ⟨rfl, rfl⟩) | (go_at_call 63; with_reducible refine (in_as hA2'.out _).mono ?_; rintro e w' ⟨rfl, rfl⟩) | (go_at_call 63; with_reducible refine (in_as hB1'.out _).mono ?_; rintro e w' ⟨rfl, rfl⟩))
                      go_ret
                      exact ⟨by rw [valid_no_job hlt (by rw [hjd'.out]; simp only [Job.ok, Job.okB, hB1'.out, Bool.and_false, Bool.false_and])]; rfl, hbw2⟩
                    · have hB1' := hid hB1
                      clear hB1
                      cases hB2 : inB j.soft 0 300
                      · have hB2' := hid hB2
                        clear hB2
                        go_wp2_with (first | (go_at_call 63; with_reducible refine (in_as hA1'.out _).mono ?_; rintro e w' ⟨rfl, rfl⟩) | (go_at_call 63; with_reducible refine (in_as hA2'.out _).mono ?_; rintro e w' ⟨rfl, rfl⟩) | (go_at_call 63; with_reducible refine (in_as hB1'.out _).mono ?_; rintro e w' ⟨rfl, rfl⟩) | (go_at_call 63; with_reducible refine (in_as hB2'.out _).mono ?_; rintro e w' ⟨rfl, rfl⟩))
                        go_ret
                        exact ⟨by rw [valid_no_job hlt (by rw [hjd'.out]; simp only [Job.ok, Job.okB, hB2'.out, Bool.and_false, Bool.false_and])]; rfl, hbw2⟩
                      · have hB2' := hid hB2
                        clear hB2
                        cases hB3 : inB j.by_ 0 300
                        · have hB3' := hid hB3
                          clear hB3
                          go_wp2_with (first | (go_at_call 63; with_reducible refine (in_as hA1'.out _).mono ?_; rintro e w' ⟨rfl, rfl⟩) | (go_at_call 63; with_reducible refine (in_as hA2'.out _).mono ?_; rintro e w' ⟨rfl, rfl⟩) | (go_at_call 63; with_reducible refine (in_as hB1'.out _).mono ?_; rintro e w' ⟨rfl, rfl⟩) | (go_at_call 63; with_reducible refine (in_as hB2'.out _).mono ?_; rintro e w' ⟨rfl, rfl⟩) | (go_at_call 63; with_reducible refine (in_as hB3'.out _).mono ?_; rintro e w' ⟨rfl, rfl⟩))
                          go_ret
                          exact ⟨by rw [valid_no_job hlt (by rw [hjd'.out]; simp only [Job.ok, Job.okB, hB3'.out, Bool.and_false, Bool.false_and])]; rfl, hbw2⟩
                        · have hB3' := hid hB3
                          clear hB3
                          cases hC1 : inB j.cost 0 50
                          · have hC1' := hid hC1
                            clear hC1
                            go_wp2_with (first | (go_at_call 63; with_reducible refine (in_as hA1'.out _).mono ?_; rintro e w' ⟨rfl, rfl⟩) | (go_at_call 63; with_reducible refine (in_as hA2'.out _).mono ?_; rintro e w' ⟨rfl, rfl⟩) | (go_at_call 63; with_reducible refine (in_as hB1'.out _).mono ?_; rintro e w' ⟨rfl, rfl⟩) | (go_at_call 63; with_reducible refine (in_as hB2'.out _).mono ?_; rintro e w' ⟨rfl, rfl⟩) | (go_at_call 63; with_reducible refine (in_as hB3'.out _).mono ?_; rintro e w' ⟨rfl, rfl⟩) | (go_at_call 63; with_reducible refine (in_as hC1'.out _).mono ?_; rintro e w' ⟨rfl, rfl⟩))
                            go_ret
                            exact ⟨by rw [valid_no_job hlt (by rw [hjd'.out]; simp only [Job.ok, Job.okC, hC1'.out, Bool.and_false, Bool.false_and])]; rfl, hbw2⟩
                          · have hC1' := hid hC1
                            clear hC1
                            go_upto_region 14 with (first | (go_at_call 63; with_reducible refine (in_as hA1'.out _).mono ?_; rintro e w' ⟨rfl, rfl⟩) | (go_at_call 63; with_reducible refine (in_as hA2'.out _).mono ?_; rintro e w' ⟨rfl, rfl⟩) | (go_at_call 63; with_reducible refine (in_as hB1'.out _).mono ?_; rintro e w' ⟨rfl, rfl⟩) | (go_at_call 63; with_reducible refine (in_as hB2'.out _).mono ?_; rintro e w' ⟨rfl, rfl⟩) | (go_at_call 63; with_reducible refine (in_as hB3'.out _).mono ?_; rintro e w' ⟨rfl, rfl⟩) | (go_at_call 63; with_reducible refine (in_as hC1'.out _).mono ?_; rintro e w' ⟨rfl, rfl⟩))
                            obtain ⟨P, hPP⟩ : ∃ P, (2 : Int) ^ M.jobs.length = P := ⟨_, rfl⟩
                            have hP0 : 0 < P := by rw [← hPP]; exact Int.pow_pos (by decide)
                            have hP64 : P ≤ 64 := by rw [← hPP]; exact two_pow_le h6
                            have hP2 : IntKind.i64.wrap (P - 1) = P - 1 := IntWalk.i64_in _ (by omega)
                            have hPW := hid (fun w => (show Calls Try.prog 62 #[.int .i64 M.jobs.length] w fun e w' => e = .returned (.int .i64 P) ∧ w' = w by rw [← hPP]; exact power_any M.jobs.length (by omega) w))
                            have hPP' := hid hPP
                            clear hPP
                            cases hC2 : inB j.after 0 (P - 1)
                            · have hC2' := hid hC2
                              clear hC2
                              go_quiet ((first | (go_at_call 62; with_reducible exact Calls.quiet_of_same (hPW.out _)) | (go_at_call 63; with_reducible exact Calls.quiet_of_same (in_as hC2'.out _))))
                              go_wp2
                              go_ret
                              exact ⟨by rw [valid_no_job hlt (by rw [hjd'.out]; simp only [Job.ok, Job.okC, hPP'.out, hC2'.out, Bool.and_false, Bool.false_and])]; rfl, below_drewN hbw2 _⟩
                            · have ha0 := (inB_iff.1 hC2).1
                              have ha1 := (inB_iff.1 hC2).2
                              have ha2 : j.after ≤ 65535 := by omega
                              have hk62 : k ≤ 62 := by omega
                              have hC2' := hid hC2
                              clear hC2
                              cases hC3 : j.after.toNat.testBit k
                              all_goals
                                have hC3' := hid hC3
                                clear hC3
                                go_quiet ((first | (go_at_call 62; with_reducible exact Calls.quiet_of_same (hPW.out _)) | (go_at_call 63; with_reducible exact Calls.quiet_of_same (in_as hC2'.out _)) | (go_at_call 61; with_reducible exact Calls.quiet_of_same (has_as hC3'.out ha0 ha2 hk62 _))))
                              · go_wp2
                                go_roundw
                                case rel =>
                                  refine ⟨k + 1, by omega, by go_num, hid ?_, below_drewN hbr2 _⟩
                                  intro q hq
                                  by_cases hqk : q < k
                                  · exact hjo.out q hqk
                                  · obtain rfl : q = k := by omega
                                    rw [hjd'.out]
                                    simp only [Job.ok, Job.okA, Job.okB, Job.okC, hA1'.out, hA2'.out, hA3'.out, hB1'.out, hB2'.out, hB3'.out, hPP'.out, hC1'.out, hC2'.out, hC3'.out, Bool.and_true, Bool.not_false]
                                case measure => simp [intOf]; omega
                              · go_wp2
                                go_ret
                                exact ⟨by rw [valid_no_job hlt (by rw [hjd'.out]; simp only [Job.ok, Job.okC, hC3'.out, Bool.and_false, Bool.not_true])]; rfl, below_drewN hbw2 _⟩
            · obtain rfl : k = M.jobs.length := by omega
              have hV := valid_yes hsz.out hjk.out hjo.out
              have hV' := hid hV
              clear hV
              go_wp2
              go_ret
              exact ⟨by rw [hV'.out]; rfl, hbw⟩
    · have hsz : Hid (M.sizes = false) := hid (by simp [Mend.sizes, h6])
      have h3i : (M.setup.length : Int) ≤ 3 := by omega
      have h6i : ¬ (M.jobs.length : Int) ≤ 6 := by omega
      go_enter Try.func25, Try.ntmps25
      go_wp2
      go_ret
      exact ⟨by rw [valid_no_size hsz.out]; rfl, below_alloc (Below.refl _ _) _⟩
  · have hsz : Hid (M.sizes = false) := hid (by simp [Mend.sizes, h3])
    have h3i : ¬ (M.setup.length : Int) ≤ 3 := by omega
    go_enter Try.func25, Try.ntmps25
    go_wp2
    go_ret
    exact ⟨by rw [valid_no_size hsz.out]; rfl, below_alloc (Below.refl _ _) _⟩

end Go.Proofs.Ytcgkglonnmkfcaa
